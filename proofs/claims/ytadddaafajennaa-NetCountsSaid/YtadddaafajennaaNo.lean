/- The law that counts. -/
import Derived.Test.YtadddaafajennaaNn
set_option linter.unusedSimpArgs false
set_option linter.unusedVariables false
set_option maxRecDepth 10000
set_option maxHeartbeats 8000000
namespace Go.Proofs.Ytadddaafajennaa.Am
open Go Go.Proofs

def StepD (e : D) : Prop := ∃ cs d a, e = .agg cs ∧ cs.length = 38 ∧ cs[0]? = some (.int .i64 d) ∧ cs[3]? = some (.int .i64 a)

theorem build_one {σ : List Ob} {s : List V} {x : Operand} {n : Nat} (h : get s x = .d (.int .i64 n)) : buildSliceF Try.prog 55 1 σ s [(0, x)] = some (.sl σ.length 0 1, σ ++ [.arr 1 false [.int .i64 n]]) := by
  simp only [buildSliceF, W4, inOrder, toDs, toD, h, flatOk, D.csz, D.cells, List.all_cons, List.all_nil, one1, beq_self_eq_true, if_true, Option.map_some, List.length_cons, List.length_nil]
  rfl

theorem counts4 (steps : List D) (f t : Int) (hs : ∀ e ∈ steps, StepD e) : callA Try.prog 4 [.d (.lst 38 steps), .d (.int .i64 f), .d (.int .i64 t)] [] fun r _ => r = .d (.bool true) := by
  refine w4.go fun K hK => ?_
  simp only [e4, c4, p4, Try.f4, codeOf, comp, cop, cstp, copAt, planFor, List.find?, Nat.reduceBEq, ↓RP, RS, Int.reduceBEq, Int.reduceBNe, Int.reduceLT, Int.reduceLE, Int.reduceAdd, Int.reduceSub, ↓reduceIte, Nat.reduceAdd, Nat.reduceMul, Nat.reduceSub, Nat.reduceLT, Nat.reduceLeDiff, Nat.reduceEqDiff, decide_true, decide_false, fieldAddrF, undE, tupE, W4]
  refine CallK_use' (small8 []) fun v σ' ⟨q1, q2⟩ => ?_
  subst q1; subst q2
  simp only [↓RP, RS, Int.reduceBEq, Int.reduceBNe, Int.reduceLT, Int.reduceLE, Int.reduceAdd, Int.reduceSub, ↓reduceIte, Nat.reduceAdd, Nat.reduceMul, Nat.reduceSub, Nat.reduceLT, Nat.reduceLeDiff, Nat.reduceEqDiff, decide_true, decide_false, fieldAddrF, undE, tupE, W4]
  refine CallK_use' (new9 4 []) fun v σ' ⟨L, R, Q, role, q1, h, k1⟩ => ?_
  subst q1
  simp only [List.length_nil, Nat.zero_add] at h ⊢
  have a1 := alive_of h.hx (by simp)
  simp only [↓RP, RS, Int.reduceBEq, Int.reduceBNe, Int.reduceLT, Int.reduceLE, Int.reduceAdd, Int.reduceSub, ↓reduceIte, Nat.reduceAdd, Nat.reduceMul, Nat.reduceSub, Nat.reduceLT, Nat.reduceLeDiff, Nat.reduceEqDiff, decide_true, decide_false, fieldAddrF, undE, tupE, W4]
  refine CallK_use' (pick12 f 4 (by omega) (by omega) σ') fun v s ⟨q1, q2⟩ => ?_
  subst q1; subst q2
  simp only [↓RP, RS, Int.reduceBEq, Int.reduceBNe, Int.reduceLT, Int.reduceLE, Int.reduceAdd, Int.reduceSub, ↓reduceIte, Nat.reduceAdd, Nat.reduceMul, Nat.reduceSub, Nat.reduceLT, Nat.reduceLeDiff, Nat.reduceEqDiff, decide_true, decide_false, fieldAddrF, undE, tupE, W4]
  refine CallK_use' (pick12 t 4 (by omega) (by omega) s) fun v s' ⟨q1, q2⟩ => ?_
  subst q1; subst q2
  have hi := pickN_lt f (m := 4) (by omega)
  have hj := pickN_lt t (m := 4) (by omega)
  generalize pickN f 4 = i at hi ⊢
  generalize pickN t 4 = j at hj ⊢
  by_cases c : 60 < (steps.length : Int)
  · have e1 : decide (60 < (steps.length : Int)) = true := by simpa using c
    simp only [↓RP, RS, Int.reduceBEq, Int.reduceBNe, Int.reduceLT, Int.reduceLE, Int.reduceAdd, Int.reduceSub, ↓reduceIte, Nat.reduceAdd, Nat.reduceMul, Nat.reduceSub, Nat.reduceLT, Nat.reduceLeDiff, Nat.reduceEqDiff, decide_true, decide_false, fieldAddrF, undE, tupE, W4, e1, a1]
    exact hK.ret (by rfl) (by rfl)
  have e1 : decide (60 < (steps.length : Int)) = false := by simpa using c
  by_cases c' : i = j
  · have e2 : ((i : Int) == (j : Int)) = true := by simp [c']
    simp only [↓RP, RS, Int.reduceBEq, Int.reduceBNe, Int.reduceLT, Int.reduceLE, Int.reduceAdd, Int.reduceSub, ↓reduceIte, Nat.reduceAdd, Nat.reduceMul, Nat.reduceSub, Nat.reduceLT, Nat.reduceLeDiff, Nat.reduceEqDiff, decide_true, decide_false, fieldAddrF, undE, tupE, W4, e1, e2, a1]
    exact hK.ret (by rfl) (by rfl)
  have e2 : ((i : Int) == (j : Int)) = false := by simp; omega
  simp only [↓RP, RS, Int.reduceBEq, Int.reduceBNe, Int.reduceLT, Int.reduceLE, Int.reduceAdd, Int.reduceSub, ↓reduceIte, Nat.reduceAdd, Nat.reduceMul, Nat.reduceSub, Nat.reduceLT, Nat.reduceLeDiff, Nat.reduceEqDiff, decide_true, decide_false, fieldAddrF, undE, tupE, W4, e1, e2, a1]
  have hm4 : manyOf 4 = 4 := rfl
  rw [hm4] at h
  have hL := okL hi hj c'
  have st0 : Sta L R i j s' none [] [] false := ⟨_, _, _, h, rfl, (fun p e => by cases e), rfl, rfl, tot_zero 4⟩
  refine Loop_k [0, 1, 2, 7, 8, 9, 10, 11] (fun x : Nat × List Ob × Option Nat × List Nat × Bool => fr 0 230 [(0, .d (.lst 38 steps)), (1, .d (.int .i64 i)), (2, .d (.int .i64 j)), (7, .d (.bool true)), (8, .ptr 1 0 0), (9, cellQ x.2.2.1 x.2.2.2.1.length), (10, .d (.bool x.2.2.2.2)), (11, .d (.int .i64 x.1))]) (fun x => x.2.1) (fun x => Sta L R i j x.2.1 x.2.2.1 x.2.2.2.1 x.2.2.2.1 x.2.2.2.2 ∧ x.2.2.2.1.length ≤ x.1 ∧ x.1 ≤ steps.length) (fun x => steps.length - x.1) (0, s', none, [], false) (by kernel_rfl) rfl ⟨st0, by simp, by simp⟩ fun ⟨k, sk, q, ns, b⟩ ⟨hS, g1, g2⟩ => ?_
  simp only at hS g1 g2 ⊢
  have hn60 : ns.length ≤ 60 := by omega
  have a2 := alive_of hS.ptr (by simp)
  have ln := hS.ownA.len (P := Try.prog) (t := 55) (by simp only [W4])
  by_cases hlt : k < steps.length
  · have e3 : decide ((k : Int) < (steps.length : Int)) = true := by simpa using hlt
    obtain ⟨cs, d, a, he, h38, hd0, hd3⟩ := hs _ (List.getElem_mem hlt)
    have x1 : ∀ σ, indexAddrF Try.prog 22 σ (.d (.lst 38 steps)) (.d (.int .i64 (k : Int))) = some (.ipt cs) := fun σ => index_lst (P := Try.prog) (t := 22) (e := 44) (by simp only [W4]) (by simp only [W4]) (by rw [List.getElem?_eq_getElem hlt, he]) h38
    have dr0 : cs.drop 0 = .int .i64 d :: cs.drop 1 := by obtain ⟨u, v⟩ := List.getElem?_eq_some_iff.1 hd0; rw [List.drop_eq_getElem_cons u, v]
    have dr3 : cs.drop 3 = .int .i64 a :: cs.drop 4 := by obtain ⟨u, v⟩ := List.getElem?_eq_some_iff.1 hd3; rw [List.drop_eq_getElem_cons u, v]
    have l0 : ∀ σ r, loadF Try.prog 3 σ (.ipt (.int .i64 d :: r)) = some (.d (.int .i64 d)) := fun σ r => by simp only [loadF, takeD, W4, Bool.false_eq_true, if_false, if_true]
    have l3 : ∀ σ r, loadF Try.prog 3 σ (.ipt (.int .i64 a :: r)) = some (.d (.int .i64 a)) := fun σ r => by simp only [loadF, takeD, W4, Bool.false_eq_true, if_false, if_true]
    have w1 : IntKind.i64.wrap ((k : Int) + 1) = ((k + 1 : Nat) : Int) := by rw [IntWalk.i64_in _ (by omega)]; rfl
    have hp8 := pickN_lt d (m := 8) (by omega)
    have en : ∀ n : Int, (n != n) = false := by simp
    have eb : ∀ b : Bool, (b == b) = true := by simp
    have z34 : z42.length = 34 := by decide
    obtain hin | ⟨hno, hgd⟩ : (0 ≤ a ∧ a < ns.length) ∨ (¬ (0 ≤ a ∧ a < ns.length) ∧ ((decide (0 ≤ a) = false) ∨ (decide (0 ≤ a) = true ∧ decide (a < (ns.length : Int)) = false))) := by
      simp only [decide_eq_true_eq, decide_eq_false_iff_not]; omega
    · obtain ⟨an, rfl⟩ : ∃ an : Nat, a = an := ⟨a.toNat, by omega⟩
      have han : an < ns.length := by omega
      obtain ⟨v, hv⟩ : ∃ v, ns[an]? = some v := ⟨_, List.getElem?_eq_getElem han⟩
      have da : decide (0 ≤ (an : Int)) = true := by simp
      have db : decide ((an : Int) < (ns.length : Int)) = true := by simpa using han
      have hle := List.length_eraseIdx_of_lt han
      simp only [fr, ↓RP, RS, Int.reduceBEq, Int.reduceBNe, Int.reduceLT, Int.reduceLE, Int.reduceAdd, Int.reduceSub, ↓reduceIte, Nat.reduceAdd, Nat.reduceMul, Nat.reduceSub, Nat.reduceLT, Nat.reduceLeDiff, Nat.reduceEqDiff, decide_true, decide_false, fieldAddrF, undE, tupE, W4, e3, x1, dr0, dr3, l0, l3, ln, da, db]
      refine CallK_use' (pick12 d 8 (by omega) (by omega) sk) fun v0 s ⟨q1, q2⟩ => ?_
      subst q1; subst q2
      obtain hp | hp | hp | hp | hp | hp | hp | hp : ((pickN d 8 : Nat) : Int) = 0 ∨ ((pickN d 8 : Nat) : Int) = 1 ∨ ((pickN d 8 : Nat) : Int) = 2 ∨ ((pickN d 8 : Nat) : Int) = 3 ∨ ((pickN d 8 : Nat) : Int) = 4 ∨ ((pickN d 8 : Nat) : Int) = 5 ∨ ((pickN d 8 : Nat) : Int) = 6 ∨ ((pickN d 8 : Nat) : Int) = 7 := by omega
      all_goals simp only [fr, ↓RP, RS, Int.reduceBEq, Int.reduceBNe, Int.reduceLT, Int.reduceLE, Int.reduceAdd, Int.reduceSub, ↓reduceIte, Nat.reduceAdd, Nat.reduceMul, Nat.reduceSub, Nat.reduceLT, Nat.reduceLeDiff, Nat.reduceEqDiff, decide_true, decide_false, fieldAddrF, undE, tupE, W4, hp]
      · refine CallK_use' (receipt30 i j k _) fun v0 s0 ⟨q1, q2⟩ => ?_
        subst q1; subst q2
        simp only [↓RP, RS, Int.reduceBEq, Int.reduceBNe, Int.reduceLT, Int.reduceLE, Int.reduceAdd, Int.reduceSub, ↓reduceIte, Nat.reduceAdd, Nat.reduceMul, Nat.reduceSub, Nat.reduceLT, Nat.reduceLeDiff, Nat.reduceEqDiff, decide_true, decide_false, fieldAddrF, undE, tupE, W4]
        refine CallK_use' (hS.send hi hj c' (by omega) k) fun v0 s1 ⟨q1, h1⟩ => ?_
        subst q1
        cases b with
        | true =>
          have h5 := h1
          simp only [if_true] at h5
          have l5 : ns.length ≤ k + 1 := by omega
          simp only [↓RP, RS, Int.reduceBEq, Int.reduceBNe, Int.reduceLT, Int.reduceLE, Int.reduceAdd, Int.reduceSub, ↓reduceIte, Nat.reduceAdd, Nat.reduceMul, Nat.reduceSub, Nat.reduceLT, Nat.reduceLeDiff, Nat.reduceEqDiff, decide_true, decide_false, fieldAddrF, undE, tupE, W4]
          have a5 := alive_of h5.ptr (by simp)
          have ln5 := h5.ownA.len (P := Try.prog) (t := 55) (by simp only [W4])
          refine CallK_use' (h5.size hi hj c') fun v0 s6 ⟨q1, q2⟩ => ?_
          subst q1; subst q2
          simp only [↓RP, RS, Int.reduceBEq, Int.reduceBNe, Int.reduceLT, Int.reduceLE, Int.reduceAdd, Int.reduceSub, ↓reduceIte, Nat.reduceAdd, Nat.reduceMul, Nat.reduceSub, Nat.reduceLT, Nat.reduceLeDiff, Nat.reduceEqDiff, decide_true, decide_false, fieldAddrF, undE, tupE, W4, ln5, en, eb]
          refine CallK_use' h5.total fun v0 s7 ⟨q1, q2⟩ => ?_
          subst q1; subst q2
          simp only [↓RP, RS, Int.reduceBEq, Int.reduceBNe, Int.reduceLT, Int.reduceLE, Int.reduceAdd, Int.reduceSub, ↓reduceIte, Nat.reduceAdd, Nat.reduceMul, Nat.reduceSub, Nat.reduceLT, Nat.reduceLeDiff, Nat.reduceEqDiff, decide_true, decide_false, fieldAddrF, undE, tupE, W4, ln5, en, eb]
          refine CallK_use' (h5.offS hi hj c') fun v0 s8 ⟨q1, q2⟩ => ?_
          subst q1; subst q2
          simp only [↓RP, RS, Int.reduceBEq, Int.reduceBNe, Int.reduceLT, Int.reduceLE, Int.reduceAdd, Int.reduceSub, ↓reduceIte, Nat.reduceAdd, Nat.reduceMul, Nat.reduceSub, Nat.reduceLT, Nat.reduceLeDiff, Nat.reduceEqDiff, decide_true, decide_false, fieldAddrF, undE, tupE, W4, ln5, en, eb, w1]
          exact seqK_n ⟨(k + 1, _, _, _, _), ⟨h5, l5, by omega⟩, by omega, by kernel_rfl, rfl⟩
        | false =>
          obtain ⟨q5, s5, ap, h5⟩ := h1.app (by omega) k
          simp only [nD] at ap
          simp only [Bool.false_eq_true, if_false] at h5
          have l5 : (ns ++ [k]).length ≤ k + 1 := by simp; omega
          have bs := fun s => build_one (σ := s1) (s := s) (x := .tmp 85) (n := k)
          simp only [↓RP, RS, Int.reduceBEq, Int.reduceBNe, Int.reduceLT, Int.reduceLE, Int.reduceAdd, Int.reduceSub, ↓reduceIte, Nat.reduceAdd, Nat.reduceMul, Nat.reduceSub, Nat.reduceLT, Nat.reduceLeDiff, Nat.reduceEqDiff, decide_true, decide_false, fieldAddrF, undE, tupE, W4, bs, ap]
          have a5 := alive_of h5.ptr (by simp)
          have ln5 := h5.ownA.len (P := Try.prog) (t := 55) (by simp only [W4])
          refine CallK_use' (h5.size hi hj c') fun v0 s6 ⟨q1, q2⟩ => ?_
          subst q1; subst q2
          simp only [↓RP, RS, Int.reduceBEq, Int.reduceBNe, Int.reduceLT, Int.reduceLE, Int.reduceAdd, Int.reduceSub, ↓reduceIte, Nat.reduceAdd, Nat.reduceMul, Nat.reduceSub, Nat.reduceLT, Nat.reduceLeDiff, Nat.reduceEqDiff, decide_true, decide_false, fieldAddrF, undE, tupE, W4, ln5, en, eb]
          refine CallK_use' h5.total fun v0 s7 ⟨q1, q2⟩ => ?_
          subst q1; subst q2
          simp only [↓RP, RS, Int.reduceBEq, Int.reduceBNe, Int.reduceLT, Int.reduceLE, Int.reduceAdd, Int.reduceSub, ↓reduceIte, Nat.reduceAdd, Nat.reduceMul, Nat.reduceSub, Nat.reduceLT, Nat.reduceLeDiff, Nat.reduceEqDiff, decide_true, decide_false, fieldAddrF, undE, tupE, W4, ln5, en, eb]
          refine CallK_use' (h5.offS hi hj c') fun v0 s8 ⟨q1, q2⟩ => ?_
          subst q1; subst q2
          simp only [↓RP, RS, Int.reduceBEq, Int.reduceBNe, Int.reduceLT, Int.reduceLE, Int.reduceAdd, Int.reduceSub, ↓reduceIte, Nat.reduceAdd, Nat.reduceMul, Nat.reduceSub, Nat.reduceLT, Nat.reduceLeDiff, Nat.reduceEqDiff, decide_true, decide_false, fieldAddrF, undE, tupE, W4, ln5, en, eb, w1]
          exact seqK_n ⟨(k + 1, _, _, _, _), ⟨h5, l5, by omega⟩, by omega, by kernel_rfl, rfl⟩
      · refine CallK_use' (receipt30 i j k _) fun v0 s0 ⟨q1, q2⟩ => ?_
        subst q1; subst q2
        simp only [↓RP, RS, Int.reduceBEq, Int.reduceBNe, Int.reduceLT, Int.reduceLE, Int.reduceAdd, Int.reduceSub, ↓reduceIte, Nat.reduceAdd, Nat.reduceMul, Nat.reduceSub, Nat.reduceLT, Nat.reduceLeDiff, Nat.reduceEqDiff, decide_true, decide_false, fieldAddrF, undE, tupE, W4]
        refine CallK_use' (hS.send hi hj c' (by omega) k) fun v0 s1 ⟨q1, h1⟩ => ?_
        subst q1
        cases b with
        | true =>
          have h5 := h1
          simp only [if_true] at h5
          have l5 : ns.length ≤ k + 1 := by omega
          simp only [↓RP, RS, Int.reduceBEq, Int.reduceBNe, Int.reduceLT, Int.reduceLE, Int.reduceAdd, Int.reduceSub, ↓reduceIte, Nat.reduceAdd, Nat.reduceMul, Nat.reduceSub, Nat.reduceLT, Nat.reduceLeDiff, Nat.reduceEqDiff, decide_true, decide_false, fieldAddrF, undE, tupE, W4]
          have a5 := alive_of h5.ptr (by simp)
          have ln5 := h5.ownA.len (P := Try.prog) (t := 55) (by simp only [W4])
          refine CallK_use' (h5.size hi hj c') fun v0 s6 ⟨q1, q2⟩ => ?_
          subst q1; subst q2
          simp only [↓RP, RS, Int.reduceBEq, Int.reduceBNe, Int.reduceLT, Int.reduceLE, Int.reduceAdd, Int.reduceSub, ↓reduceIte, Nat.reduceAdd, Nat.reduceMul, Nat.reduceSub, Nat.reduceLT, Nat.reduceLeDiff, Nat.reduceEqDiff, decide_true, decide_false, fieldAddrF, undE, tupE, W4, ln5, en, eb]
          refine CallK_use' h5.total fun v0 s7 ⟨q1, q2⟩ => ?_
          subst q1; subst q2
          simp only [↓RP, RS, Int.reduceBEq, Int.reduceBNe, Int.reduceLT, Int.reduceLE, Int.reduceAdd, Int.reduceSub, ↓reduceIte, Nat.reduceAdd, Nat.reduceMul, Nat.reduceSub, Nat.reduceLT, Nat.reduceLeDiff, Nat.reduceEqDiff, decide_true, decide_false, fieldAddrF, undE, tupE, W4, ln5, en, eb]
          refine CallK_use' (h5.offS hi hj c') fun v0 s8 ⟨q1, q2⟩ => ?_
          subst q1; subst q2
          simp only [↓RP, RS, Int.reduceBEq, Int.reduceBNe, Int.reduceLT, Int.reduceLE, Int.reduceAdd, Int.reduceSub, ↓reduceIte, Nat.reduceAdd, Nat.reduceMul, Nat.reduceSub, Nat.reduceLT, Nat.reduceLeDiff, Nat.reduceEqDiff, decide_true, decide_false, fieldAddrF, undE, tupE, W4, ln5, en, eb, w1]
          exact seqK_n ⟨(k + 1, _, _, _, _), ⟨h5, l5, by omega⟩, by omega, by kernel_rfl, rfl⟩
        | false =>
          obtain ⟨q5, s5, ap, h5⟩ := h1.app (by omega) k
          simp only [nD] at ap
          simp only [Bool.false_eq_true, if_false] at h5
          have l5 : (ns ++ [k]).length ≤ k + 1 := by simp; omega
          have bs := fun s => build_one (σ := s1) (s := s) (x := .tmp 85) (n := k)
          simp only [↓RP, RS, Int.reduceBEq, Int.reduceBNe, Int.reduceLT, Int.reduceLE, Int.reduceAdd, Int.reduceSub, ↓reduceIte, Nat.reduceAdd, Nat.reduceMul, Nat.reduceSub, Nat.reduceLT, Nat.reduceLeDiff, Nat.reduceEqDiff, decide_true, decide_false, fieldAddrF, undE, tupE, W4, bs, ap]
          have a5 := alive_of h5.ptr (by simp)
          have ln5 := h5.ownA.len (P := Try.prog) (t := 55) (by simp only [W4])
          refine CallK_use' (h5.size hi hj c') fun v0 s6 ⟨q1, q2⟩ => ?_
          subst q1; subst q2
          simp only [↓RP, RS, Int.reduceBEq, Int.reduceBNe, Int.reduceLT, Int.reduceLE, Int.reduceAdd, Int.reduceSub, ↓reduceIte, Nat.reduceAdd, Nat.reduceMul, Nat.reduceSub, Nat.reduceLT, Nat.reduceLeDiff, Nat.reduceEqDiff, decide_true, decide_false, fieldAddrF, undE, tupE, W4, ln5, en, eb]
          refine CallK_use' h5.total fun v0 s7 ⟨q1, q2⟩ => ?_
          subst q1; subst q2
          simp only [↓RP, RS, Int.reduceBEq, Int.reduceBNe, Int.reduceLT, Int.reduceLE, Int.reduceAdd, Int.reduceSub, ↓reduceIte, Nat.reduceAdd, Nat.reduceMul, Nat.reduceSub, Nat.reduceLT, Nat.reduceLeDiff, Nat.reduceEqDiff, decide_true, decide_false, fieldAddrF, undE, tupE, W4, ln5, en, eb]
          refine CallK_use' (h5.offS hi hj c') fun v0 s8 ⟨q1, q2⟩ => ?_
          subst q1; subst q2
          simp only [↓RP, RS, Int.reduceBEq, Int.reduceBNe, Int.reduceLT, Int.reduceLE, Int.reduceAdd, Int.reduceSub, ↓reduceIte, Nat.reduceAdd, Nat.reduceMul, Nat.reduceSub, Nat.reduceLT, Nat.reduceLeDiff, Nat.reduceEqDiff, decide_true, decide_false, fieldAddrF, undE, tupE, W4, ln5, en, eb, w1]
          exact seqK_n ⟨(k + 1, _, _, _, _), ⟨h5, l5, by omega⟩, by omega, by kernel_rfl, rfl⟩
      · refine CallK_use' (receipt30 i j k _) fun v0 s0 ⟨q1, q2⟩ => ?_
        subst q1; subst q2
        simp only [↓RP, RS, Int.reduceBEq, Int.reduceBNe, Int.reduceLT, Int.reduceLE, Int.reduceAdd, Int.reduceSub, ↓reduceIte, Nat.reduceAdd, Nat.reduceMul, Nat.reduceSub, Nat.reduceLT, Nat.reduceLeDiff, Nat.reduceEqDiff, decide_true, decide_false, fieldAddrF, undE, tupE, W4]
        refine CallK_use' (hS.send hi hj c' (by omega) k) fun v0 s1 ⟨q1, h1⟩ => ?_
        subst q1
        cases b with
        | true =>
          have h5 := h1
          simp only [if_true] at h5
          have l5 : ns.length ≤ k + 1 := by omega
          simp only [↓RP, RS, Int.reduceBEq, Int.reduceBNe, Int.reduceLT, Int.reduceLE, Int.reduceAdd, Int.reduceSub, ↓reduceIte, Nat.reduceAdd, Nat.reduceMul, Nat.reduceSub, Nat.reduceLT, Nat.reduceLeDiff, Nat.reduceEqDiff, decide_true, decide_false, fieldAddrF, undE, tupE, W4]
          have a5 := alive_of h5.ptr (by simp)
          have ln5 := h5.ownA.len (P := Try.prog) (t := 55) (by simp only [W4])
          refine CallK_use' (h5.size hi hj c') fun v0 s6 ⟨q1, q2⟩ => ?_
          subst q1; subst q2
          simp only [↓RP, RS, Int.reduceBEq, Int.reduceBNe, Int.reduceLT, Int.reduceLE, Int.reduceAdd, Int.reduceSub, ↓reduceIte, Nat.reduceAdd, Nat.reduceMul, Nat.reduceSub, Nat.reduceLT, Nat.reduceLeDiff, Nat.reduceEqDiff, decide_true, decide_false, fieldAddrF, undE, tupE, W4, ln5, en, eb]
          refine CallK_use' h5.total fun v0 s7 ⟨q1, q2⟩ => ?_
          subst q1; subst q2
          simp only [↓RP, RS, Int.reduceBEq, Int.reduceBNe, Int.reduceLT, Int.reduceLE, Int.reduceAdd, Int.reduceSub, ↓reduceIte, Nat.reduceAdd, Nat.reduceMul, Nat.reduceSub, Nat.reduceLT, Nat.reduceLeDiff, Nat.reduceEqDiff, decide_true, decide_false, fieldAddrF, undE, tupE, W4, ln5, en, eb]
          refine CallK_use' (h5.offS hi hj c') fun v0 s8 ⟨q1, q2⟩ => ?_
          subst q1; subst q2
          simp only [↓RP, RS, Int.reduceBEq, Int.reduceBNe, Int.reduceLT, Int.reduceLE, Int.reduceAdd, Int.reduceSub, ↓reduceIte, Nat.reduceAdd, Nat.reduceMul, Nat.reduceSub, Nat.reduceLT, Nat.reduceLeDiff, Nat.reduceEqDiff, decide_true, decide_false, fieldAddrF, undE, tupE, W4, ln5, en, eb, w1]
          exact seqK_n ⟨(k + 1, _, _, _, _), ⟨h5, l5, by omega⟩, by omega, by kernel_rfl, rfl⟩
        | false =>
          obtain ⟨q5, s5, ap, h5⟩ := h1.app (by omega) k
          simp only [nD] at ap
          simp only [Bool.false_eq_true, if_false] at h5
          have l5 : (ns ++ [k]).length ≤ k + 1 := by simp; omega
          have bs := fun s => build_one (σ := s1) (s := s) (x := .tmp 85) (n := k)
          simp only [↓RP, RS, Int.reduceBEq, Int.reduceBNe, Int.reduceLT, Int.reduceLE, Int.reduceAdd, Int.reduceSub, ↓reduceIte, Nat.reduceAdd, Nat.reduceMul, Nat.reduceSub, Nat.reduceLT, Nat.reduceLeDiff, Nat.reduceEqDiff, decide_true, decide_false, fieldAddrF, undE, tupE, W4, bs, ap]
          have a5 := alive_of h5.ptr (by simp)
          have ln5 := h5.ownA.len (P := Try.prog) (t := 55) (by simp only [W4])
          refine CallK_use' (h5.size hi hj c') fun v0 s6 ⟨q1, q2⟩ => ?_
          subst q1; subst q2
          simp only [↓RP, RS, Int.reduceBEq, Int.reduceBNe, Int.reduceLT, Int.reduceLE, Int.reduceAdd, Int.reduceSub, ↓reduceIte, Nat.reduceAdd, Nat.reduceMul, Nat.reduceSub, Nat.reduceLT, Nat.reduceLeDiff, Nat.reduceEqDiff, decide_true, decide_false, fieldAddrF, undE, tupE, W4, ln5, en, eb]
          refine CallK_use' h5.total fun v0 s7 ⟨q1, q2⟩ => ?_
          subst q1; subst q2
          simp only [↓RP, RS, Int.reduceBEq, Int.reduceBNe, Int.reduceLT, Int.reduceLE, Int.reduceAdd, Int.reduceSub, ↓reduceIte, Nat.reduceAdd, Nat.reduceMul, Nat.reduceSub, Nat.reduceLT, Nat.reduceLeDiff, Nat.reduceEqDiff, decide_true, decide_false, fieldAddrF, undE, tupE, W4, ln5, en, eb]
          refine CallK_use' (h5.offS hi hj c') fun v0 s8 ⟨q1, q2⟩ => ?_
          subst q1; subst q2
          simp only [↓RP, RS, Int.reduceBEq, Int.reduceBNe, Int.reduceLT, Int.reduceLE, Int.reduceAdd, Int.reduceSub, ↓reduceIte, Nat.reduceAdd, Nat.reduceMul, Nat.reduceSub, Nat.reduceLT, Nat.reduceLeDiff, Nat.reduceEqDiff, decide_true, decide_false, fieldAddrF, undE, tupE, W4, ln5, en, eb, w1]
          exact seqK_n ⟨(k + 1, _, _, _, _), ⟨h5, l5, by omega⟩, by omega, by kernel_rfl, rfl⟩
      · refine CallK_use' (hS.take hi hj c' hv) fun v0 s1 ⟨q1, h1⟩ => ?_
        subst q1
        have g0 : (s1 ++ [Ob.box z42])[s1.length]? = some (.box z42) := by simp
        have st := store_aggd (P := Try.prog) (t := 42) (k := 0) g0 (xs := rcpt i j v) (rcpt_ok i j v).one (by rw [(rcpt_ok i j v).len, z34]; decide) (by rw [(rcpt_ok i j v).len]; simp only [W4]) (by simp only [W4]; decide)
        rw [setAt_all (by rw [List.length_map, (rcpt_ok i j v).len, z34])] at st
        have h2 : Sta L R i j ((s1 ++ [Ob.box z42]).set s1.length (.box ((rcpt i j v).map .d))) q ns (ns.eraseIdx an) b := h1.keep ⟨by simp, fun o ho _ => by rw [List.getElem?_set_ne (by omega)]; exact List.getElem?_append_left ho⟩
        have g2 : ((s1 ++ [Ob.box z42]).set s1.length (.box ((rcpt i j v).map .d)))[s1.length]? = some (.box ((rcpt i j v).map .d)) := List.getElem?_set_self (by simp)
        generalize (s1 ++ [Ob.box z42]).set s1.length (.box ((rcpt i j v).map .d)) = s2 at st h2 g2
        have a3 := alive_of g2 (by simp)
        have m1 := load_box (P := Try.prog) (t := 3) (k := 1) (x := .d (.int .i64 i)) g2 rfl (by simp only [W4]) (by simp only [W4])
        have m2 := load_box (P := Try.prog) (t := 3) (k := 2) (x := .d (.int .i64 j)) g2 rfl (by simp only [W4]) (by simp only [W4])
        have m3 := load_box (P := Try.prog) (t := 3) (k := 13) (x := .d (.int .i64 v)) g2 rfl (by simp only [W4]) (by simp only [W4])
        obtain ⟨p, m4, m5⟩ := h2.ownA.at hv (P := Try.prog) (t := 55) (e := 3) (by simp only [W4]) (by simp only [W4]) (by simp only [W4]) (by simp only [W4])
        simp only [↓RP, RS, Int.reduceBEq, Int.reduceBNe, Int.reduceLT, Int.reduceLE, Int.reduceAdd, Int.reduceSub, ↓reduceIte, Nat.reduceAdd, Nat.reduceMul, Nat.reduceSub, Nat.reduceLT, Nat.reduceLeDiff, Nat.reduceEqDiff, decide_true, decide_false, fieldAddrF, undE, tupE, W4, allocE, st, a3, m1, m2, m3, m4, m5, en]
        refine CallK_use' (h2.without (by omega) han) fun v0 s5 ⟨q5, q1, h5⟩ => ?_
        subst q1
        have l5 : (ns.eraseIdx an).length ≤ k + 1 := by omega
        simp only [↓RP, RS, Int.reduceBEq, Int.reduceBNe, Int.reduceLT, Int.reduceLE, Int.reduceAdd, Int.reduceSub, ↓reduceIte, Nat.reduceAdd, Nat.reduceMul, Nat.reduceSub, Nat.reduceLT, Nat.reduceLeDiff, Nat.reduceEqDiff, decide_true, decide_false, fieldAddrF, undE, tupE, W4]
        have a5 := alive_of h5.ptr (by simp)
        have ln5 := h5.ownA.len (P := Try.prog) (t := 55) (by simp only [W4])
        refine CallK_use' (h5.size hi hj c') fun v0 s6 ⟨q1, q2⟩ => ?_
        subst q1; subst q2
        simp only [↓RP, RS, Int.reduceBEq, Int.reduceBNe, Int.reduceLT, Int.reduceLE, Int.reduceAdd, Int.reduceSub, ↓reduceIte, Nat.reduceAdd, Nat.reduceMul, Nat.reduceSub, Nat.reduceLT, Nat.reduceLeDiff, Nat.reduceEqDiff, decide_true, decide_false, fieldAddrF, undE, tupE, W4, ln5, en, eb]
        refine CallK_use' h5.total fun v0 s7 ⟨q1, q2⟩ => ?_
        subst q1; subst q2
        simp only [↓RP, RS, Int.reduceBEq, Int.reduceBNe, Int.reduceLT, Int.reduceLE, Int.reduceAdd, Int.reduceSub, ↓reduceIte, Nat.reduceAdd, Nat.reduceMul, Nat.reduceSub, Nat.reduceLT, Nat.reduceLeDiff, Nat.reduceEqDiff, decide_true, decide_false, fieldAddrF, undE, tupE, W4, ln5, en, eb]
        refine CallK_use' (h5.offS hi hj c') fun v0 s8 ⟨q1, q2⟩ => ?_
        subst q1; subst q2
        simp only [↓RP, RS, Int.reduceBEq, Int.reduceBNe, Int.reduceLT, Int.reduceLE, Int.reduceAdd, Int.reduceSub, ↓reduceIte, Nat.reduceAdd, Nat.reduceMul, Nat.reduceSub, Nat.reduceLT, Nat.reduceLeDiff, Nat.reduceEqDiff, decide_true, decide_false, fieldAddrF, undE, tupE, W4, ln5, en, eb, w1]
        exact seqK_n ⟨(k + 1, _, _, _, _), ⟨h5, l5, by omega⟩, by omega, by kernel_rfl, rfl⟩
      · refine CallK_use' (hS.lose hi hj c' han) fun v0 s1 ⟨q1, h1⟩ => ?_
        subst q1
        simp only [↓RP, RS, Int.reduceBEq, Int.reduceBNe, Int.reduceLT, Int.reduceLE, Int.reduceAdd, Int.reduceSub, ↓reduceIte, Nat.reduceAdd, Nat.reduceMul, Nat.reduceSub, Nat.reduceLT, Nat.reduceLeDiff, Nat.reduceEqDiff, decide_true, decide_false, fieldAddrF, undE, tupE, W4]
        refine CallK_use' (h1.without (by omega) han) fun v0 s5 ⟨q5, q1, h5⟩ => ?_
        subst q1
        have l5 : (ns.eraseIdx an).length ≤ k + 1 := by omega
        simp only [↓RP, RS, Int.reduceBEq, Int.reduceBNe, Int.reduceLT, Int.reduceLE, Int.reduceAdd, Int.reduceSub, ↓reduceIte, Nat.reduceAdd, Nat.reduceMul, Nat.reduceSub, Nat.reduceLT, Nat.reduceLeDiff, Nat.reduceEqDiff, decide_true, decide_false, fieldAddrF, undE, tupE, W4]
        have a5 := alive_of h5.ptr (by simp)
        have ln5 := h5.ownA.len (P := Try.prog) (t := 55) (by simp only [W4])
        refine CallK_use' (h5.size hi hj c') fun v0 s6 ⟨q1, q2⟩ => ?_
        subst q1; subst q2
        simp only [↓RP, RS, Int.reduceBEq, Int.reduceBNe, Int.reduceLT, Int.reduceLE, Int.reduceAdd, Int.reduceSub, ↓reduceIte, Nat.reduceAdd, Nat.reduceMul, Nat.reduceSub, Nat.reduceLT, Nat.reduceLeDiff, Nat.reduceEqDiff, decide_true, decide_false, fieldAddrF, undE, tupE, W4, ln5, en, eb]
        refine CallK_use' h5.total fun v0 s7 ⟨q1, q2⟩ => ?_
        subst q1; subst q2
        simp only [↓RP, RS, Int.reduceBEq, Int.reduceBNe, Int.reduceLT, Int.reduceLE, Int.reduceAdd, Int.reduceSub, ↓reduceIte, Nat.reduceAdd, Nat.reduceMul, Nat.reduceSub, Nat.reduceLT, Nat.reduceLeDiff, Nat.reduceEqDiff, decide_true, decide_false, fieldAddrF, undE, tupE, W4, ln5, en, eb]
        refine CallK_use' (h5.offS hi hj c') fun v0 s8 ⟨q1, q2⟩ => ?_
        subst q1; subst q2
        simp only [↓RP, RS, Int.reduceBEq, Int.reduceBNe, Int.reduceLT, Int.reduceLE, Int.reduceAdd, Int.reduceSub, ↓reduceIte, Nat.reduceAdd, Nat.reduceMul, Nat.reduceSub, Nat.reduceLT, Nat.reduceLeDiff, Nat.reduceEqDiff, decide_true, decide_false, fieldAddrF, undE, tupE, W4, ln5, en, eb, w1]
        exact seqK_n ⟨(k + 1, _, _, _, _), ⟨h5, l5, by omega⟩, by omega, by kernel_rfl, rfl⟩
      · refine CallK_use' (hS.twice hi hj c' (by omega) hv) fun v0 s1 ⟨q1, h1⟩ => ?_
        subst q1
        obtain ⟨p, m4, m5⟩ := h1.ownA.at hv (P := Try.prog) (t := 55) (e := 3) (by simp only [W4]) (by simp only [W4]) (by simp only [W4]) (by simp only [W4])
        obtain ⟨q5, s5, ap, h5⟩ := h1.app (by omega) v
        simp only [nD] at ap
        have l5 : (ns ++ [v]).length ≤ k + 1 := by simp; omega
        have bs := fun s => build_one (σ := s1) (s := s) (x := .tmp 153) (n := v)
        simp only [↓RP, RS, Int.reduceBEq, Int.reduceBNe, Int.reduceLT, Int.reduceLE, Int.reduceAdd, Int.reduceSub, ↓reduceIte, Nat.reduceAdd, Nat.reduceMul, Nat.reduceSub, Nat.reduceLT, Nat.reduceLeDiff, Nat.reduceEqDiff, decide_true, decide_false, fieldAddrF, undE, tupE, W4, m4, m5, nD, bs, ap]
        have a5 := alive_of h5.ptr (by simp)
        have ln5 := h5.ownA.len (P := Try.prog) (t := 55) (by simp only [W4])
        refine CallK_use' (h5.size hi hj c') fun v0 s6 ⟨q1, q2⟩ => ?_
        subst q1; subst q2
        simp only [↓RP, RS, Int.reduceBEq, Int.reduceBNe, Int.reduceLT, Int.reduceLE, Int.reduceAdd, Int.reduceSub, ↓reduceIte, Nat.reduceAdd, Nat.reduceMul, Nat.reduceSub, Nat.reduceLT, Nat.reduceLeDiff, Nat.reduceEqDiff, decide_true, decide_false, fieldAddrF, undE, tupE, W4, ln5, en, eb]
        refine CallK_use' h5.total fun v0 s7 ⟨q1, q2⟩ => ?_
        subst q1; subst q2
        simp only [↓RP, RS, Int.reduceBEq, Int.reduceBNe, Int.reduceLT, Int.reduceLE, Int.reduceAdd, Int.reduceSub, ↓reduceIte, Nat.reduceAdd, Nat.reduceMul, Nat.reduceSub, Nat.reduceLT, Nat.reduceLeDiff, Nat.reduceEqDiff, decide_true, decide_false, fieldAddrF, undE, tupE, W4, ln5, en, eb]
        refine CallK_use' (h5.offS hi hj c') fun v0 s8 ⟨q1, q2⟩ => ?_
        subst q1; subst q2
        simp only [↓RP, RS, Int.reduceBEq, Int.reduceBNe, Int.reduceLT, Int.reduceLE, Int.reduceAdd, Int.reduceSub, ↓reduceIte, Nat.reduceAdd, Nat.reduceMul, Nat.reduceSub, Nat.reduceLT, Nat.reduceLeDiff, Nat.reduceEqDiff, decide_true, decide_false, fieldAddrF, undE, tupE, W4, ln5, en, eb, w1]
        exact seqK_n ⟨(k + 1, _, _, _, _), ⟨h5, l5, by omega⟩, by omega, by kernel_rfl, rfl⟩
      · simp only [↓RP, RS, Int.reduceBEq, Int.reduceBNe, Int.reduceLT, Int.reduceLE, Int.reduceAdd, Int.reduceSub, ↓reduceIte, Nat.reduceAdd, Nat.reduceMul, Nat.reduceSub, Nat.reduceLT, Nat.reduceLeDiff, Nat.reduceEqDiff, decide_true, decide_false, fieldAddrF, undE, tupE, W4, x1, dr0, l0]
        refine CallK_use' (pick12 d 8 (by omega) (by omega) _) fun v0 s ⟨q1, q2⟩ => ?_
        subst q1; subst q2
        simp only [↓RP, RS, Int.reduceBEq, Int.reduceBNe, Int.reduceLT, Int.reduceLE, Int.reduceAdd, Int.reduceSub, ↓reduceIte, Nat.reduceAdd, Nat.reduceMul, Nat.reduceSub, Nat.reduceLT, Nat.reduceLeDiff, Nat.reduceEqDiff, decide_true, decide_false, fieldAddrF, undE, tupE, W4, hp]
        refine CallK_use' (hS.cut hi hj c' true) fun v0 s5 ⟨q1, h5⟩ => ?_
        subst q1
        have l5 : ns.length ≤ k + 1 := by omega
        simp only [↓RP, RS, Int.reduceBEq, Int.reduceBNe, Int.reduceLT, Int.reduceLE, Int.reduceAdd, Int.reduceSub, ↓reduceIte, Nat.reduceAdd, Nat.reduceMul, Nat.reduceSub, Nat.reduceLT, Nat.reduceLeDiff, Nat.reduceEqDiff, decide_true, decide_false, fieldAddrF, undE, tupE, W4]
        have a5 := alive_of h5.ptr (by simp)
        have ln5 := h5.ownA.len (P := Try.prog) (t := 55) (by simp only [W4])
        refine CallK_use' (h5.size hi hj c') fun v0 s6 ⟨q1, q2⟩ => ?_
        subst q1; subst q2
        simp only [↓RP, RS, Int.reduceBEq, Int.reduceBNe, Int.reduceLT, Int.reduceLE, Int.reduceAdd, Int.reduceSub, ↓reduceIte, Nat.reduceAdd, Nat.reduceMul, Nat.reduceSub, Nat.reduceLT, Nat.reduceLeDiff, Nat.reduceEqDiff, decide_true, decide_false, fieldAddrF, undE, tupE, W4, ln5, en, eb]
        refine CallK_use' h5.total fun v0 s7 ⟨q1, q2⟩ => ?_
        subst q1; subst q2
        simp only [↓RP, RS, Int.reduceBEq, Int.reduceBNe, Int.reduceLT, Int.reduceLE, Int.reduceAdd, Int.reduceSub, ↓reduceIte, Nat.reduceAdd, Nat.reduceMul, Nat.reduceSub, Nat.reduceLT, Nat.reduceLeDiff, Nat.reduceEqDiff, decide_true, decide_false, fieldAddrF, undE, tupE, W4, ln5, en, eb]
        refine CallK_use' (h5.offS hi hj c') fun v0 s8 ⟨q1, q2⟩ => ?_
        subst q1; subst q2
        simp only [↓RP, RS, Int.reduceBEq, Int.reduceBNe, Int.reduceLT, Int.reduceLE, Int.reduceAdd, Int.reduceSub, ↓reduceIte, Nat.reduceAdd, Nat.reduceMul, Nat.reduceSub, Nat.reduceLT, Nat.reduceLeDiff, Nat.reduceEqDiff, decide_true, decide_false, fieldAddrF, undE, tupE, W4, ln5, en, eb, w1]
        exact seqK_n ⟨(k + 1, _, _, _, _), ⟨h5, l5, by omega⟩, by omega, by kernel_rfl, rfl⟩
      · simp only [↓RP, RS, Int.reduceBEq, Int.reduceBNe, Int.reduceLT, Int.reduceLE, Int.reduceAdd, Int.reduceSub, ↓reduceIte, Nat.reduceAdd, Nat.reduceMul, Nat.reduceSub, Nat.reduceLT, Nat.reduceLeDiff, Nat.reduceEqDiff, decide_true, decide_false, fieldAddrF, undE, tupE, W4, x1, dr0, l0]
        refine CallK_use' (pick12 d 8 (by omega) (by omega) _) fun v0 s ⟨q1, q2⟩ => ?_
        subst q1; subst q2
        simp only [↓RP, RS, Int.reduceBEq, Int.reduceBNe, Int.reduceLT, Int.reduceLE, Int.reduceAdd, Int.reduceSub, ↓reduceIte, Nat.reduceAdd, Nat.reduceMul, Nat.reduceSub, Nat.reduceLT, Nat.reduceLeDiff, Nat.reduceEqDiff, decide_true, decide_false, fieldAddrF, undE, tupE, W4, hp]
        refine CallK_use' (hS.cut hi hj c' false) fun v0 s5 ⟨q1, h5⟩ => ?_
        subst q1
        have l5 : ns.length ≤ k + 1 := by omega
        simp only [↓RP, RS, Int.reduceBEq, Int.reduceBNe, Int.reduceLT, Int.reduceLE, Int.reduceAdd, Int.reduceSub, ↓reduceIte, Nat.reduceAdd, Nat.reduceMul, Nat.reduceSub, Nat.reduceLT, Nat.reduceLeDiff, Nat.reduceEqDiff, decide_true, decide_false, fieldAddrF, undE, tupE, W4]
        have a5 := alive_of h5.ptr (by simp)
        have ln5 := h5.ownA.len (P := Try.prog) (t := 55) (by simp only [W4])
        refine CallK_use' (h5.size hi hj c') fun v0 s6 ⟨q1, q2⟩ => ?_
        subst q1; subst q2
        simp only [↓RP, RS, Int.reduceBEq, Int.reduceBNe, Int.reduceLT, Int.reduceLE, Int.reduceAdd, Int.reduceSub, ↓reduceIte, Nat.reduceAdd, Nat.reduceMul, Nat.reduceSub, Nat.reduceLT, Nat.reduceLeDiff, Nat.reduceEqDiff, decide_true, decide_false, fieldAddrF, undE, tupE, W4, ln5, en, eb]
        refine CallK_use' h5.total fun v0 s7 ⟨q1, q2⟩ => ?_
        subst q1; subst q2
        simp only [↓RP, RS, Int.reduceBEq, Int.reduceBNe, Int.reduceLT, Int.reduceLE, Int.reduceAdd, Int.reduceSub, ↓reduceIte, Nat.reduceAdd, Nat.reduceMul, Nat.reduceSub, Nat.reduceLT, Nat.reduceLeDiff, Nat.reduceEqDiff, decide_true, decide_false, fieldAddrF, undE, tupE, W4, ln5, en, eb]
        refine CallK_use' (h5.offS hi hj c') fun v0 s8 ⟨q1, q2⟩ => ?_
        subst q1; subst q2
        simp only [↓RP, RS, Int.reduceBEq, Int.reduceBNe, Int.reduceLT, Int.reduceLE, Int.reduceAdd, Int.reduceSub, ↓reduceIte, Nat.reduceAdd, Nat.reduceMul, Nat.reduceSub, Nat.reduceLT, Nat.reduceLeDiff, Nat.reduceEqDiff, decide_true, decide_false, fieldAddrF, undE, tupE, W4, ln5, en, eb, w1]
        exact seqK_n ⟨(k + 1, _, _, _, _), ⟨h5, l5, by omega⟩, by omega, by kernel_rfl, rfl⟩
    · rcases hgd with d1 | ⟨d1, d2⟩
      · simp only [fr, ↓RP, RS, Int.reduceBEq, Int.reduceBNe, Int.reduceLT, Int.reduceLE, Int.reduceAdd, Int.reduceSub, ↓reduceIte, Nat.reduceAdd, Nat.reduceMul, Nat.reduceSub, Nat.reduceLT, Nat.reduceLeDiff, Nat.reduceEqDiff, decide_true, decide_false, fieldAddrF, undE, tupE, W4, e3, x1, dr0, dr3, l0, l3, ln, d1]
        refine CallK_use' (pick12 d 8 (by omega) (by omega) sk) fun v0 s ⟨q1, q2⟩ => ?_
        subst q1; subst q2
        obtain hp | hp | hp | hp | hp | hp | hp | hp : ((pickN d 8 : Nat) : Int) = 0 ∨ ((pickN d 8 : Nat) : Int) = 1 ∨ ((pickN d 8 : Nat) : Int) = 2 ∨ ((pickN d 8 : Nat) : Int) = 3 ∨ ((pickN d 8 : Nat) : Int) = 4 ∨ ((pickN d 8 : Nat) : Int) = 5 ∨ ((pickN d 8 : Nat) : Int) = 6 ∨ ((pickN d 8 : Nat) : Int) = 7 := by omega
        all_goals simp only [fr, ↓RP, RS, Int.reduceBEq, Int.reduceBNe, Int.reduceLT, Int.reduceLE, Int.reduceAdd, Int.reduceSub, ↓reduceIte, Nat.reduceAdd, Nat.reduceMul, Nat.reduceSub, Nat.reduceLT, Nat.reduceLeDiff, Nat.reduceEqDiff, decide_true, decide_false, fieldAddrF, undE, tupE, W4, hp]
        · refine CallK_use' (receipt30 i j k _) fun v0 s0 ⟨q1, q2⟩ => ?_
          subst q1; subst q2
          simp only [↓RP, RS, Int.reduceBEq, Int.reduceBNe, Int.reduceLT, Int.reduceLE, Int.reduceAdd, Int.reduceSub, ↓reduceIte, Nat.reduceAdd, Nat.reduceMul, Nat.reduceSub, Nat.reduceLT, Nat.reduceLeDiff, Nat.reduceEqDiff, decide_true, decide_false, fieldAddrF, undE, tupE, W4]
          refine CallK_use' (hS.send hi hj c' (by omega) k) fun v0 s1 ⟨q1, h1⟩ => ?_
          subst q1
          cases b with
          | true =>
            have h5 := h1
            simp only [if_true] at h5
            have l5 : ns.length ≤ k + 1 := by omega
            simp only [↓RP, RS, Int.reduceBEq, Int.reduceBNe, Int.reduceLT, Int.reduceLE, Int.reduceAdd, Int.reduceSub, ↓reduceIte, Nat.reduceAdd, Nat.reduceMul, Nat.reduceSub, Nat.reduceLT, Nat.reduceLeDiff, Nat.reduceEqDiff, decide_true, decide_false, fieldAddrF, undE, tupE, W4]
            have a5 := alive_of h5.ptr (by simp)
            have ln5 := h5.ownA.len (P := Try.prog) (t := 55) (by simp only [W4])
            refine CallK_use' (h5.size hi hj c') fun v0 s6 ⟨q1, q2⟩ => ?_
            subst q1; subst q2
            simp only [↓RP, RS, Int.reduceBEq, Int.reduceBNe, Int.reduceLT, Int.reduceLE, Int.reduceAdd, Int.reduceSub, ↓reduceIte, Nat.reduceAdd, Nat.reduceMul, Nat.reduceSub, Nat.reduceLT, Nat.reduceLeDiff, Nat.reduceEqDiff, decide_true, decide_false, fieldAddrF, undE, tupE, W4, ln5, en, eb]
            refine CallK_use' h5.total fun v0 s7 ⟨q1, q2⟩ => ?_
            subst q1; subst q2
            simp only [↓RP, RS, Int.reduceBEq, Int.reduceBNe, Int.reduceLT, Int.reduceLE, Int.reduceAdd, Int.reduceSub, ↓reduceIte, Nat.reduceAdd, Nat.reduceMul, Nat.reduceSub, Nat.reduceLT, Nat.reduceLeDiff, Nat.reduceEqDiff, decide_true, decide_false, fieldAddrF, undE, tupE, W4, ln5, en, eb]
            refine CallK_use' (h5.offS hi hj c') fun v0 s8 ⟨q1, q2⟩ => ?_
            subst q1; subst q2
            simp only [↓RP, RS, Int.reduceBEq, Int.reduceBNe, Int.reduceLT, Int.reduceLE, Int.reduceAdd, Int.reduceSub, ↓reduceIte, Nat.reduceAdd, Nat.reduceMul, Nat.reduceSub, Nat.reduceLT, Nat.reduceLeDiff, Nat.reduceEqDiff, decide_true, decide_false, fieldAddrF, undE, tupE, W4, ln5, en, eb, w1]
            exact seqK_n ⟨(k + 1, _, _, _, _), ⟨h5, l5, by omega⟩, by omega, by kernel_rfl, rfl⟩
          | false =>
            obtain ⟨q5, s5, ap, h5⟩ := h1.app (by omega) k
            simp only [nD] at ap
            simp only [Bool.false_eq_true, if_false] at h5
            have l5 : (ns ++ [k]).length ≤ k + 1 := by simp; omega
            have bs := fun s => build_one (σ := s1) (s := s) (x := .tmp 85) (n := k)
            simp only [↓RP, RS, Int.reduceBEq, Int.reduceBNe, Int.reduceLT, Int.reduceLE, Int.reduceAdd, Int.reduceSub, ↓reduceIte, Nat.reduceAdd, Nat.reduceMul, Nat.reduceSub, Nat.reduceLT, Nat.reduceLeDiff, Nat.reduceEqDiff, decide_true, decide_false, fieldAddrF, undE, tupE, W4, bs, ap]
            have a5 := alive_of h5.ptr (by simp)
            have ln5 := h5.ownA.len (P := Try.prog) (t := 55) (by simp only [W4])
            refine CallK_use' (h5.size hi hj c') fun v0 s6 ⟨q1, q2⟩ => ?_
            subst q1; subst q2
            simp only [↓RP, RS, Int.reduceBEq, Int.reduceBNe, Int.reduceLT, Int.reduceLE, Int.reduceAdd, Int.reduceSub, ↓reduceIte, Nat.reduceAdd, Nat.reduceMul, Nat.reduceSub, Nat.reduceLT, Nat.reduceLeDiff, Nat.reduceEqDiff, decide_true, decide_false, fieldAddrF, undE, tupE, W4, ln5, en, eb]
            refine CallK_use' h5.total fun v0 s7 ⟨q1, q2⟩ => ?_
            subst q1; subst q2
            simp only [↓RP, RS, Int.reduceBEq, Int.reduceBNe, Int.reduceLT, Int.reduceLE, Int.reduceAdd, Int.reduceSub, ↓reduceIte, Nat.reduceAdd, Nat.reduceMul, Nat.reduceSub, Nat.reduceLT, Nat.reduceLeDiff, Nat.reduceEqDiff, decide_true, decide_false, fieldAddrF, undE, tupE, W4, ln5, en, eb]
            refine CallK_use' (h5.offS hi hj c') fun v0 s8 ⟨q1, q2⟩ => ?_
            subst q1; subst q2
            simp only [↓RP, RS, Int.reduceBEq, Int.reduceBNe, Int.reduceLT, Int.reduceLE, Int.reduceAdd, Int.reduceSub, ↓reduceIte, Nat.reduceAdd, Nat.reduceMul, Nat.reduceSub, Nat.reduceLT, Nat.reduceLeDiff, Nat.reduceEqDiff, decide_true, decide_false, fieldAddrF, undE, tupE, W4, ln5, en, eb, w1]
            exact seqK_n ⟨(k + 1, _, _, _, _), ⟨h5, l5, by omega⟩, by omega, by kernel_rfl, rfl⟩
        · refine CallK_use' (receipt30 i j k _) fun v0 s0 ⟨q1, q2⟩ => ?_
          subst q1; subst q2
          simp only [↓RP, RS, Int.reduceBEq, Int.reduceBNe, Int.reduceLT, Int.reduceLE, Int.reduceAdd, Int.reduceSub, ↓reduceIte, Nat.reduceAdd, Nat.reduceMul, Nat.reduceSub, Nat.reduceLT, Nat.reduceLeDiff, Nat.reduceEqDiff, decide_true, decide_false, fieldAddrF, undE, tupE, W4]
          refine CallK_use' (hS.send hi hj c' (by omega) k) fun v0 s1 ⟨q1, h1⟩ => ?_
          subst q1
          cases b with
          | true =>
            have h5 := h1
            simp only [if_true] at h5
            have l5 : ns.length ≤ k + 1 := by omega
            simp only [↓RP, RS, Int.reduceBEq, Int.reduceBNe, Int.reduceLT, Int.reduceLE, Int.reduceAdd, Int.reduceSub, ↓reduceIte, Nat.reduceAdd, Nat.reduceMul, Nat.reduceSub, Nat.reduceLT, Nat.reduceLeDiff, Nat.reduceEqDiff, decide_true, decide_false, fieldAddrF, undE, tupE, W4]
            have a5 := alive_of h5.ptr (by simp)
            have ln5 := h5.ownA.len (P := Try.prog) (t := 55) (by simp only [W4])
            refine CallK_use' (h5.size hi hj c') fun v0 s6 ⟨q1, q2⟩ => ?_
            subst q1; subst q2
            simp only [↓RP, RS, Int.reduceBEq, Int.reduceBNe, Int.reduceLT, Int.reduceLE, Int.reduceAdd, Int.reduceSub, ↓reduceIte, Nat.reduceAdd, Nat.reduceMul, Nat.reduceSub, Nat.reduceLT, Nat.reduceLeDiff, Nat.reduceEqDiff, decide_true, decide_false, fieldAddrF, undE, tupE, W4, ln5, en, eb]
            refine CallK_use' h5.total fun v0 s7 ⟨q1, q2⟩ => ?_
            subst q1; subst q2
            simp only [↓RP, RS, Int.reduceBEq, Int.reduceBNe, Int.reduceLT, Int.reduceLE, Int.reduceAdd, Int.reduceSub, ↓reduceIte, Nat.reduceAdd, Nat.reduceMul, Nat.reduceSub, Nat.reduceLT, Nat.reduceLeDiff, Nat.reduceEqDiff, decide_true, decide_false, fieldAddrF, undE, tupE, W4, ln5, en, eb]
            refine CallK_use' (h5.offS hi hj c') fun v0 s8 ⟨q1, q2⟩ => ?_
            subst q1; subst q2
            simp only [↓RP, RS, Int.reduceBEq, Int.reduceBNe, Int.reduceLT, Int.reduceLE, Int.reduceAdd, Int.reduceSub, ↓reduceIte, Nat.reduceAdd, Nat.reduceMul, Nat.reduceSub, Nat.reduceLT, Nat.reduceLeDiff, Nat.reduceEqDiff, decide_true, decide_false, fieldAddrF, undE, tupE, W4, ln5, en, eb, w1]
            exact seqK_n ⟨(k + 1, _, _, _, _), ⟨h5, l5, by omega⟩, by omega, by kernel_rfl, rfl⟩
          | false =>
            obtain ⟨q5, s5, ap, h5⟩ := h1.app (by omega) k
            simp only [nD] at ap
            simp only [Bool.false_eq_true, if_false] at h5
            have l5 : (ns ++ [k]).length ≤ k + 1 := by simp; omega
            have bs := fun s => build_one (σ := s1) (s := s) (x := .tmp 85) (n := k)
            simp only [↓RP, RS, Int.reduceBEq, Int.reduceBNe, Int.reduceLT, Int.reduceLE, Int.reduceAdd, Int.reduceSub, ↓reduceIte, Nat.reduceAdd, Nat.reduceMul, Nat.reduceSub, Nat.reduceLT, Nat.reduceLeDiff, Nat.reduceEqDiff, decide_true, decide_false, fieldAddrF, undE, tupE, W4, bs, ap]
            have a5 := alive_of h5.ptr (by simp)
            have ln5 := h5.ownA.len (P := Try.prog) (t := 55) (by simp only [W4])
            refine CallK_use' (h5.size hi hj c') fun v0 s6 ⟨q1, q2⟩ => ?_
            subst q1; subst q2
            simp only [↓RP, RS, Int.reduceBEq, Int.reduceBNe, Int.reduceLT, Int.reduceLE, Int.reduceAdd, Int.reduceSub, ↓reduceIte, Nat.reduceAdd, Nat.reduceMul, Nat.reduceSub, Nat.reduceLT, Nat.reduceLeDiff, Nat.reduceEqDiff, decide_true, decide_false, fieldAddrF, undE, tupE, W4, ln5, en, eb]
            refine CallK_use' h5.total fun v0 s7 ⟨q1, q2⟩ => ?_
            subst q1; subst q2
            simp only [↓RP, RS, Int.reduceBEq, Int.reduceBNe, Int.reduceLT, Int.reduceLE, Int.reduceAdd, Int.reduceSub, ↓reduceIte, Nat.reduceAdd, Nat.reduceMul, Nat.reduceSub, Nat.reduceLT, Nat.reduceLeDiff, Nat.reduceEqDiff, decide_true, decide_false, fieldAddrF, undE, tupE, W4, ln5, en, eb]
            refine CallK_use' (h5.offS hi hj c') fun v0 s8 ⟨q1, q2⟩ => ?_
            subst q1; subst q2
            simp only [↓RP, RS, Int.reduceBEq, Int.reduceBNe, Int.reduceLT, Int.reduceLE, Int.reduceAdd, Int.reduceSub, ↓reduceIte, Nat.reduceAdd, Nat.reduceMul, Nat.reduceSub, Nat.reduceLT, Nat.reduceLeDiff, Nat.reduceEqDiff, decide_true, decide_false, fieldAddrF, undE, tupE, W4, ln5, en, eb, w1]
            exact seqK_n ⟨(k + 1, _, _, _, _), ⟨h5, l5, by omega⟩, by omega, by kernel_rfl, rfl⟩
        · refine CallK_use' (receipt30 i j k _) fun v0 s0 ⟨q1, q2⟩ => ?_
          subst q1; subst q2
          simp only [↓RP, RS, Int.reduceBEq, Int.reduceBNe, Int.reduceLT, Int.reduceLE, Int.reduceAdd, Int.reduceSub, ↓reduceIte, Nat.reduceAdd, Nat.reduceMul, Nat.reduceSub, Nat.reduceLT, Nat.reduceLeDiff, Nat.reduceEqDiff, decide_true, decide_false, fieldAddrF, undE, tupE, W4]
          refine CallK_use' (hS.send hi hj c' (by omega) k) fun v0 s1 ⟨q1, h1⟩ => ?_
          subst q1
          cases b with
          | true =>
            have h5 := h1
            simp only [if_true] at h5
            have l5 : ns.length ≤ k + 1 := by omega
            simp only [↓RP, RS, Int.reduceBEq, Int.reduceBNe, Int.reduceLT, Int.reduceLE, Int.reduceAdd, Int.reduceSub, ↓reduceIte, Nat.reduceAdd, Nat.reduceMul, Nat.reduceSub, Nat.reduceLT, Nat.reduceLeDiff, Nat.reduceEqDiff, decide_true, decide_false, fieldAddrF, undE, tupE, W4]
            have a5 := alive_of h5.ptr (by simp)
            have ln5 := h5.ownA.len (P := Try.prog) (t := 55) (by simp only [W4])
            refine CallK_use' (h5.size hi hj c') fun v0 s6 ⟨q1, q2⟩ => ?_
            subst q1; subst q2
            simp only [↓RP, RS, Int.reduceBEq, Int.reduceBNe, Int.reduceLT, Int.reduceLE, Int.reduceAdd, Int.reduceSub, ↓reduceIte, Nat.reduceAdd, Nat.reduceMul, Nat.reduceSub, Nat.reduceLT, Nat.reduceLeDiff, Nat.reduceEqDiff, decide_true, decide_false, fieldAddrF, undE, tupE, W4, ln5, en, eb]
            refine CallK_use' h5.total fun v0 s7 ⟨q1, q2⟩ => ?_
            subst q1; subst q2
            simp only [↓RP, RS, Int.reduceBEq, Int.reduceBNe, Int.reduceLT, Int.reduceLE, Int.reduceAdd, Int.reduceSub, ↓reduceIte, Nat.reduceAdd, Nat.reduceMul, Nat.reduceSub, Nat.reduceLT, Nat.reduceLeDiff, Nat.reduceEqDiff, decide_true, decide_false, fieldAddrF, undE, tupE, W4, ln5, en, eb]
            refine CallK_use' (h5.offS hi hj c') fun v0 s8 ⟨q1, q2⟩ => ?_
            subst q1; subst q2
            simp only [↓RP, RS, Int.reduceBEq, Int.reduceBNe, Int.reduceLT, Int.reduceLE, Int.reduceAdd, Int.reduceSub, ↓reduceIte, Nat.reduceAdd, Nat.reduceMul, Nat.reduceSub, Nat.reduceLT, Nat.reduceLeDiff, Nat.reduceEqDiff, decide_true, decide_false, fieldAddrF, undE, tupE, W4, ln5, en, eb, w1]
            exact seqK_n ⟨(k + 1, _, _, _, _), ⟨h5, l5, by omega⟩, by omega, by kernel_rfl, rfl⟩
          | false =>
            obtain ⟨q5, s5, ap, h5⟩ := h1.app (by omega) k
            simp only [nD] at ap
            simp only [Bool.false_eq_true, if_false] at h5
            have l5 : (ns ++ [k]).length ≤ k + 1 := by simp; omega
            have bs := fun s => build_one (σ := s1) (s := s) (x := .tmp 85) (n := k)
            simp only [↓RP, RS, Int.reduceBEq, Int.reduceBNe, Int.reduceLT, Int.reduceLE, Int.reduceAdd, Int.reduceSub, ↓reduceIte, Nat.reduceAdd, Nat.reduceMul, Nat.reduceSub, Nat.reduceLT, Nat.reduceLeDiff, Nat.reduceEqDiff, decide_true, decide_false, fieldAddrF, undE, tupE, W4, bs, ap]
            have a5 := alive_of h5.ptr (by simp)
            have ln5 := h5.ownA.len (P := Try.prog) (t := 55) (by simp only [W4])
            refine CallK_use' (h5.size hi hj c') fun v0 s6 ⟨q1, q2⟩ => ?_
            subst q1; subst q2
            simp only [↓RP, RS, Int.reduceBEq, Int.reduceBNe, Int.reduceLT, Int.reduceLE, Int.reduceAdd, Int.reduceSub, ↓reduceIte, Nat.reduceAdd, Nat.reduceMul, Nat.reduceSub, Nat.reduceLT, Nat.reduceLeDiff, Nat.reduceEqDiff, decide_true, decide_false, fieldAddrF, undE, tupE, W4, ln5, en, eb]
            refine CallK_use' h5.total fun v0 s7 ⟨q1, q2⟩ => ?_
            subst q1; subst q2
            simp only [↓RP, RS, Int.reduceBEq, Int.reduceBNe, Int.reduceLT, Int.reduceLE, Int.reduceAdd, Int.reduceSub, ↓reduceIte, Nat.reduceAdd, Nat.reduceMul, Nat.reduceSub, Nat.reduceLT, Nat.reduceLeDiff, Nat.reduceEqDiff, decide_true, decide_false, fieldAddrF, undE, tupE, W4, ln5, en, eb]
            refine CallK_use' (h5.offS hi hj c') fun v0 s8 ⟨q1, q2⟩ => ?_
            subst q1; subst q2
            simp only [↓RP, RS, Int.reduceBEq, Int.reduceBNe, Int.reduceLT, Int.reduceLE, Int.reduceAdd, Int.reduceSub, ↓reduceIte, Nat.reduceAdd, Nat.reduceMul, Nat.reduceSub, Nat.reduceLT, Nat.reduceLeDiff, Nat.reduceEqDiff, decide_true, decide_false, fieldAddrF, undE, tupE, W4, ln5, en, eb, w1]
            exact seqK_n ⟨(k + 1, _, _, _, _), ⟨h5, l5, by omega⟩, by omega, by kernel_rfl, rfl⟩
        · refine CallK_use' (hS.take_no hno) fun v0 s1 ⟨q1, h1⟩ => ?_
          subst q1
          obtain ⟨ms, hm, m34, m1⟩ := noMsg_ok
          have g0 : (s1 ++ [Ob.box z42])[s1.length]? = some (.box z42) := by simp
          have st := store_aggd (P := Try.prog) (t := 42) (k := 0) g0 m1 (by simp [m34]; decide) (by simp [W4, m34]) (by simp [W4])
          rw [setAt_all (by simp [m34]; decide)] at st
          have h5 : Sta L R i j ((s1 ++ [Ob.box z42]).set s1.length (.box (ms.map .d))) q ns ns b := h1.keep ⟨by simp, fun o ho _ => by rw [List.getElem?_set_ne (by omega)]; exact List.getElem?_append_left ho⟩
          have l5 : ns.length ≤ k + 1 := by omega
          generalize (s1 ++ [Ob.box z42]).set s1.length (.box (ms.map .d)) = s2 at st h5
          simp only [↓RP, RS, Int.reduceBEq, Int.reduceBNe, Int.reduceLT, Int.reduceLE, Int.reduceAdd, Int.reduceSub, ↓reduceIte, Nat.reduceAdd, Nat.reduceMul, Nat.reduceSub, Nat.reduceLT, Nat.reduceLeDiff, Nat.reduceEqDiff, decide_true, decide_false, fieldAddrF, undE, tupE, W4, hm, allocE, st]
          have a5 := alive_of h5.ptr (by simp)
          have ln5 := h5.ownA.len (P := Try.prog) (t := 55) (by simp only [W4])
          refine CallK_use' (h5.size hi hj c') fun v0 s6 ⟨q1, q2⟩ => ?_
          subst q1; subst q2
          simp only [↓RP, RS, Int.reduceBEq, Int.reduceBNe, Int.reduceLT, Int.reduceLE, Int.reduceAdd, Int.reduceSub, ↓reduceIte, Nat.reduceAdd, Nat.reduceMul, Nat.reduceSub, Nat.reduceLT, Nat.reduceLeDiff, Nat.reduceEqDiff, decide_true, decide_false, fieldAddrF, undE, tupE, W4, ln5, en, eb]
          refine CallK_use' h5.total fun v0 s7 ⟨q1, q2⟩ => ?_
          subst q1; subst q2
          simp only [↓RP, RS, Int.reduceBEq, Int.reduceBNe, Int.reduceLT, Int.reduceLE, Int.reduceAdd, Int.reduceSub, ↓reduceIte, Nat.reduceAdd, Nat.reduceMul, Nat.reduceSub, Nat.reduceLT, Nat.reduceLeDiff, Nat.reduceEqDiff, decide_true, decide_false, fieldAddrF, undE, tupE, W4, ln5, en, eb]
          refine CallK_use' (h5.offS hi hj c') fun v0 s8 ⟨q1, q2⟩ => ?_
          subst q1; subst q2
          simp only [↓RP, RS, Int.reduceBEq, Int.reduceBNe, Int.reduceLT, Int.reduceLE, Int.reduceAdd, Int.reduceSub, ↓reduceIte, Nat.reduceAdd, Nat.reduceMul, Nat.reduceSub, Nat.reduceLT, Nat.reduceLeDiff, Nat.reduceEqDiff, decide_true, decide_false, fieldAddrF, undE, tupE, W4, ln5, en, eb, w1]
          exact seqK_n ⟨(k + 1, _, _, _, _), ⟨h5, l5, by omega⟩, by omega, by kernel_rfl, rfl⟩
        · refine CallK_use' (hS.lose_no hno) fun v0 s1 ⟨q1, h5⟩ => ?_
          subst q1
          have l5 : ns.length ≤ k + 1 := by omega
          simp only [↓RP, RS, Int.reduceBEq, Int.reduceBNe, Int.reduceLT, Int.reduceLE, Int.reduceAdd, Int.reduceSub, ↓reduceIte, Nat.reduceAdd, Nat.reduceMul, Nat.reduceSub, Nat.reduceLT, Nat.reduceLeDiff, Nat.reduceEqDiff, decide_true, decide_false, fieldAddrF, undE, tupE, W4]
          have a5 := alive_of h5.ptr (by simp)
          have ln5 := h5.ownA.len (P := Try.prog) (t := 55) (by simp only [W4])
          refine CallK_use' (h5.size hi hj c') fun v0 s6 ⟨q1, q2⟩ => ?_
          subst q1; subst q2
          simp only [↓RP, RS, Int.reduceBEq, Int.reduceBNe, Int.reduceLT, Int.reduceLE, Int.reduceAdd, Int.reduceSub, ↓reduceIte, Nat.reduceAdd, Nat.reduceMul, Nat.reduceSub, Nat.reduceLT, Nat.reduceLeDiff, Nat.reduceEqDiff, decide_true, decide_false, fieldAddrF, undE, tupE, W4, ln5, en, eb]
          refine CallK_use' h5.total fun v0 s7 ⟨q1, q2⟩ => ?_
          subst q1; subst q2
          simp only [↓RP, RS, Int.reduceBEq, Int.reduceBNe, Int.reduceLT, Int.reduceLE, Int.reduceAdd, Int.reduceSub, ↓reduceIte, Nat.reduceAdd, Nat.reduceMul, Nat.reduceSub, Nat.reduceLT, Nat.reduceLeDiff, Nat.reduceEqDiff, decide_true, decide_false, fieldAddrF, undE, tupE, W4, ln5, en, eb]
          refine CallK_use' (h5.offS hi hj c') fun v0 s8 ⟨q1, q2⟩ => ?_
          subst q1; subst q2
          simp only [↓RP, RS, Int.reduceBEq, Int.reduceBNe, Int.reduceLT, Int.reduceLE, Int.reduceAdd, Int.reduceSub, ↓reduceIte, Nat.reduceAdd, Nat.reduceMul, Nat.reduceSub, Nat.reduceLT, Nat.reduceLeDiff, Nat.reduceEqDiff, decide_true, decide_false, fieldAddrF, undE, tupE, W4, ln5, en, eb, w1]
          exact seqK_n ⟨(k + 1, _, _, _, _), ⟨h5, l5, by omega⟩, by omega, by kernel_rfl, rfl⟩
        · refine CallK_use' (hS.twice_no hno) fun v0 s1 ⟨q1, h5⟩ => ?_
          subst q1
          have l5 : ns.length ≤ k + 1 := by omega
          simp only [↓RP, RS, Int.reduceBEq, Int.reduceBNe, Int.reduceLT, Int.reduceLE, Int.reduceAdd, Int.reduceSub, ↓reduceIte, Nat.reduceAdd, Nat.reduceMul, Nat.reduceSub, Nat.reduceLT, Nat.reduceLeDiff, Nat.reduceEqDiff, decide_true, decide_false, fieldAddrF, undE, tupE, W4]
          have a5 := alive_of h5.ptr (by simp)
          have ln5 := h5.ownA.len (P := Try.prog) (t := 55) (by simp only [W4])
          refine CallK_use' (h5.size hi hj c') fun v0 s6 ⟨q1, q2⟩ => ?_
          subst q1; subst q2
          simp only [↓RP, RS, Int.reduceBEq, Int.reduceBNe, Int.reduceLT, Int.reduceLE, Int.reduceAdd, Int.reduceSub, ↓reduceIte, Nat.reduceAdd, Nat.reduceMul, Nat.reduceSub, Nat.reduceLT, Nat.reduceLeDiff, Nat.reduceEqDiff, decide_true, decide_false, fieldAddrF, undE, tupE, W4, ln5, en, eb]
          refine CallK_use' h5.total fun v0 s7 ⟨q1, q2⟩ => ?_
          subst q1; subst q2
          simp only [↓RP, RS, Int.reduceBEq, Int.reduceBNe, Int.reduceLT, Int.reduceLE, Int.reduceAdd, Int.reduceSub, ↓reduceIte, Nat.reduceAdd, Nat.reduceMul, Nat.reduceSub, Nat.reduceLT, Nat.reduceLeDiff, Nat.reduceEqDiff, decide_true, decide_false, fieldAddrF, undE, tupE, W4, ln5, en, eb]
          refine CallK_use' (h5.offS hi hj c') fun v0 s8 ⟨q1, q2⟩ => ?_
          subst q1; subst q2
          simp only [↓RP, RS, Int.reduceBEq, Int.reduceBNe, Int.reduceLT, Int.reduceLE, Int.reduceAdd, Int.reduceSub, ↓reduceIte, Nat.reduceAdd, Nat.reduceMul, Nat.reduceSub, Nat.reduceLT, Nat.reduceLeDiff, Nat.reduceEqDiff, decide_true, decide_false, fieldAddrF, undE, tupE, W4, ln5, en, eb, w1]
          exact seqK_n ⟨(k + 1, _, _, _, _), ⟨h5, l5, by omega⟩, by omega, by kernel_rfl, rfl⟩
        · simp only [↓RP, RS, Int.reduceBEq, Int.reduceBNe, Int.reduceLT, Int.reduceLE, Int.reduceAdd, Int.reduceSub, ↓reduceIte, Nat.reduceAdd, Nat.reduceMul, Nat.reduceSub, Nat.reduceLT, Nat.reduceLeDiff, Nat.reduceEqDiff, decide_true, decide_false, fieldAddrF, undE, tupE, W4, x1, dr0, l0]
          refine CallK_use' (pick12 d 8 (by omega) (by omega) _) fun v0 s ⟨q1, q2⟩ => ?_
          subst q1; subst q2
          simp only [↓RP, RS, Int.reduceBEq, Int.reduceBNe, Int.reduceLT, Int.reduceLE, Int.reduceAdd, Int.reduceSub, ↓reduceIte, Nat.reduceAdd, Nat.reduceMul, Nat.reduceSub, Nat.reduceLT, Nat.reduceLeDiff, Nat.reduceEqDiff, decide_true, decide_false, fieldAddrF, undE, tupE, W4, hp]
          refine CallK_use' (hS.cut hi hj c' true) fun v0 s5 ⟨q1, h5⟩ => ?_
          subst q1
          have l5 : ns.length ≤ k + 1 := by omega
          simp only [↓RP, RS, Int.reduceBEq, Int.reduceBNe, Int.reduceLT, Int.reduceLE, Int.reduceAdd, Int.reduceSub, ↓reduceIte, Nat.reduceAdd, Nat.reduceMul, Nat.reduceSub, Nat.reduceLT, Nat.reduceLeDiff, Nat.reduceEqDiff, decide_true, decide_false, fieldAddrF, undE, tupE, W4]
          have a5 := alive_of h5.ptr (by simp)
          have ln5 := h5.ownA.len (P := Try.prog) (t := 55) (by simp only [W4])
          refine CallK_use' (h5.size hi hj c') fun v0 s6 ⟨q1, q2⟩ => ?_
          subst q1; subst q2
          simp only [↓RP, RS, Int.reduceBEq, Int.reduceBNe, Int.reduceLT, Int.reduceLE, Int.reduceAdd, Int.reduceSub, ↓reduceIte, Nat.reduceAdd, Nat.reduceMul, Nat.reduceSub, Nat.reduceLT, Nat.reduceLeDiff, Nat.reduceEqDiff, decide_true, decide_false, fieldAddrF, undE, tupE, W4, ln5, en, eb]
          refine CallK_use' h5.total fun v0 s7 ⟨q1, q2⟩ => ?_
          subst q1; subst q2
          simp only [↓RP, RS, Int.reduceBEq, Int.reduceBNe, Int.reduceLT, Int.reduceLE, Int.reduceAdd, Int.reduceSub, ↓reduceIte, Nat.reduceAdd, Nat.reduceMul, Nat.reduceSub, Nat.reduceLT, Nat.reduceLeDiff, Nat.reduceEqDiff, decide_true, decide_false, fieldAddrF, undE, tupE, W4, ln5, en, eb]
          refine CallK_use' (h5.offS hi hj c') fun v0 s8 ⟨q1, q2⟩ => ?_
          subst q1; subst q2
          simp only [↓RP, RS, Int.reduceBEq, Int.reduceBNe, Int.reduceLT, Int.reduceLE, Int.reduceAdd, Int.reduceSub, ↓reduceIte, Nat.reduceAdd, Nat.reduceMul, Nat.reduceSub, Nat.reduceLT, Nat.reduceLeDiff, Nat.reduceEqDiff, decide_true, decide_false, fieldAddrF, undE, tupE, W4, ln5, en, eb, w1]
          exact seqK_n ⟨(k + 1, _, _, _, _), ⟨h5, l5, by omega⟩, by omega, by kernel_rfl, rfl⟩
        · simp only [↓RP, RS, Int.reduceBEq, Int.reduceBNe, Int.reduceLT, Int.reduceLE, Int.reduceAdd, Int.reduceSub, ↓reduceIte, Nat.reduceAdd, Nat.reduceMul, Nat.reduceSub, Nat.reduceLT, Nat.reduceLeDiff, Nat.reduceEqDiff, decide_true, decide_false, fieldAddrF, undE, tupE, W4, x1, dr0, l0]
          refine CallK_use' (pick12 d 8 (by omega) (by omega) _) fun v0 s ⟨q1, q2⟩ => ?_
          subst q1; subst q2
          simp only [↓RP, RS, Int.reduceBEq, Int.reduceBNe, Int.reduceLT, Int.reduceLE, Int.reduceAdd, Int.reduceSub, ↓reduceIte, Nat.reduceAdd, Nat.reduceMul, Nat.reduceSub, Nat.reduceLT, Nat.reduceLeDiff, Nat.reduceEqDiff, decide_true, decide_false, fieldAddrF, undE, tupE, W4, hp]
          refine CallK_use' (hS.cut hi hj c' false) fun v0 s5 ⟨q1, h5⟩ => ?_
          subst q1
          have l5 : ns.length ≤ k + 1 := by omega
          simp only [↓RP, RS, Int.reduceBEq, Int.reduceBNe, Int.reduceLT, Int.reduceLE, Int.reduceAdd, Int.reduceSub, ↓reduceIte, Nat.reduceAdd, Nat.reduceMul, Nat.reduceSub, Nat.reduceLT, Nat.reduceLeDiff, Nat.reduceEqDiff, decide_true, decide_false, fieldAddrF, undE, tupE, W4]
          have a5 := alive_of h5.ptr (by simp)
          have ln5 := h5.ownA.len (P := Try.prog) (t := 55) (by simp only [W4])
          refine CallK_use' (h5.size hi hj c') fun v0 s6 ⟨q1, q2⟩ => ?_
          subst q1; subst q2
          simp only [↓RP, RS, Int.reduceBEq, Int.reduceBNe, Int.reduceLT, Int.reduceLE, Int.reduceAdd, Int.reduceSub, ↓reduceIte, Nat.reduceAdd, Nat.reduceMul, Nat.reduceSub, Nat.reduceLT, Nat.reduceLeDiff, Nat.reduceEqDiff, decide_true, decide_false, fieldAddrF, undE, tupE, W4, ln5, en, eb]
          refine CallK_use' h5.total fun v0 s7 ⟨q1, q2⟩ => ?_
          subst q1; subst q2
          simp only [↓RP, RS, Int.reduceBEq, Int.reduceBNe, Int.reduceLT, Int.reduceLE, Int.reduceAdd, Int.reduceSub, ↓reduceIte, Nat.reduceAdd, Nat.reduceMul, Nat.reduceSub, Nat.reduceLT, Nat.reduceLeDiff, Nat.reduceEqDiff, decide_true, decide_false, fieldAddrF, undE, tupE, W4, ln5, en, eb]
          refine CallK_use' (h5.offS hi hj c') fun v0 s8 ⟨q1, q2⟩ => ?_
          subst q1; subst q2
          simp only [↓RP, RS, Int.reduceBEq, Int.reduceBNe, Int.reduceLT, Int.reduceLE, Int.reduceAdd, Int.reduceSub, ↓reduceIte, Nat.reduceAdd, Nat.reduceMul, Nat.reduceSub, Nat.reduceLT, Nat.reduceLeDiff, Nat.reduceEqDiff, decide_true, decide_false, fieldAddrF, undE, tupE, W4, ln5, en, eb, w1]
          exact seqK_n ⟨(k + 1, _, _, _, _), ⟨h5, l5, by omega⟩, by omega, by kernel_rfl, rfl⟩
      · simp only [fr, ↓RP, RS, Int.reduceBEq, Int.reduceBNe, Int.reduceLT, Int.reduceLE, Int.reduceAdd, Int.reduceSub, ↓reduceIte, Nat.reduceAdd, Nat.reduceMul, Nat.reduceSub, Nat.reduceLT, Nat.reduceLeDiff, Nat.reduceEqDiff, decide_true, decide_false, fieldAddrF, undE, tupE, W4, e3, x1, dr0, dr3, l0, l3, ln, d1, d2]
        refine CallK_use' (pick12 d 8 (by omega) (by omega) sk) fun v0 s ⟨q1, q2⟩ => ?_
        subst q1; subst q2
        obtain hp | hp | hp | hp | hp | hp | hp | hp : ((pickN d 8 : Nat) : Int) = 0 ∨ ((pickN d 8 : Nat) : Int) = 1 ∨ ((pickN d 8 : Nat) : Int) = 2 ∨ ((pickN d 8 : Nat) : Int) = 3 ∨ ((pickN d 8 : Nat) : Int) = 4 ∨ ((pickN d 8 : Nat) : Int) = 5 ∨ ((pickN d 8 : Nat) : Int) = 6 ∨ ((pickN d 8 : Nat) : Int) = 7 := by omega
        all_goals simp only [fr, ↓RP, RS, Int.reduceBEq, Int.reduceBNe, Int.reduceLT, Int.reduceLE, Int.reduceAdd, Int.reduceSub, ↓reduceIte, Nat.reduceAdd, Nat.reduceMul, Nat.reduceSub, Nat.reduceLT, Nat.reduceLeDiff, Nat.reduceEqDiff, decide_true, decide_false, fieldAddrF, undE, tupE, W4, hp]
        · refine CallK_use' (receipt30 i j k _) fun v0 s0 ⟨q1, q2⟩ => ?_
          subst q1; subst q2
          simp only [↓RP, RS, Int.reduceBEq, Int.reduceBNe, Int.reduceLT, Int.reduceLE, Int.reduceAdd, Int.reduceSub, ↓reduceIte, Nat.reduceAdd, Nat.reduceMul, Nat.reduceSub, Nat.reduceLT, Nat.reduceLeDiff, Nat.reduceEqDiff, decide_true, decide_false, fieldAddrF, undE, tupE, W4]
          refine CallK_use' (hS.send hi hj c' (by omega) k) fun v0 s1 ⟨q1, h1⟩ => ?_
          subst q1
          cases b with
          | true =>
            have h5 := h1
            simp only [if_true] at h5
            have l5 : ns.length ≤ k + 1 := by omega
            simp only [↓RP, RS, Int.reduceBEq, Int.reduceBNe, Int.reduceLT, Int.reduceLE, Int.reduceAdd, Int.reduceSub, ↓reduceIte, Nat.reduceAdd, Nat.reduceMul, Nat.reduceSub, Nat.reduceLT, Nat.reduceLeDiff, Nat.reduceEqDiff, decide_true, decide_false, fieldAddrF, undE, tupE, W4]
            have a5 := alive_of h5.ptr (by simp)
            have ln5 := h5.ownA.len (P := Try.prog) (t := 55) (by simp only [W4])
            refine CallK_use' (h5.size hi hj c') fun v0 s6 ⟨q1, q2⟩ => ?_
            subst q1; subst q2
            simp only [↓RP, RS, Int.reduceBEq, Int.reduceBNe, Int.reduceLT, Int.reduceLE, Int.reduceAdd, Int.reduceSub, ↓reduceIte, Nat.reduceAdd, Nat.reduceMul, Nat.reduceSub, Nat.reduceLT, Nat.reduceLeDiff, Nat.reduceEqDiff, decide_true, decide_false, fieldAddrF, undE, tupE, W4, ln5, en, eb]
            refine CallK_use' h5.total fun v0 s7 ⟨q1, q2⟩ => ?_
            subst q1; subst q2
            simp only [↓RP, RS, Int.reduceBEq, Int.reduceBNe, Int.reduceLT, Int.reduceLE, Int.reduceAdd, Int.reduceSub, ↓reduceIte, Nat.reduceAdd, Nat.reduceMul, Nat.reduceSub, Nat.reduceLT, Nat.reduceLeDiff, Nat.reduceEqDiff, decide_true, decide_false, fieldAddrF, undE, tupE, W4, ln5, en, eb]
            refine CallK_use' (h5.offS hi hj c') fun v0 s8 ⟨q1, q2⟩ => ?_
            subst q1; subst q2
            simp only [↓RP, RS, Int.reduceBEq, Int.reduceBNe, Int.reduceLT, Int.reduceLE, Int.reduceAdd, Int.reduceSub, ↓reduceIte, Nat.reduceAdd, Nat.reduceMul, Nat.reduceSub, Nat.reduceLT, Nat.reduceLeDiff, Nat.reduceEqDiff, decide_true, decide_false, fieldAddrF, undE, tupE, W4, ln5, en, eb, w1]
            exact seqK_n ⟨(k + 1, _, _, _, _), ⟨h5, l5, by omega⟩, by omega, by kernel_rfl, rfl⟩
          | false =>
            obtain ⟨q5, s5, ap, h5⟩ := h1.app (by omega) k
            simp only [nD] at ap
            simp only [Bool.false_eq_true, if_false] at h5
            have l5 : (ns ++ [k]).length ≤ k + 1 := by simp; omega
            have bs := fun s => build_one (σ := s1) (s := s) (x := .tmp 85) (n := k)
            simp only [↓RP, RS, Int.reduceBEq, Int.reduceBNe, Int.reduceLT, Int.reduceLE, Int.reduceAdd, Int.reduceSub, ↓reduceIte, Nat.reduceAdd, Nat.reduceMul, Nat.reduceSub, Nat.reduceLT, Nat.reduceLeDiff, Nat.reduceEqDiff, decide_true, decide_false, fieldAddrF, undE, tupE, W4, bs, ap]
            have a5 := alive_of h5.ptr (by simp)
            have ln5 := h5.ownA.len (P := Try.prog) (t := 55) (by simp only [W4])
            refine CallK_use' (h5.size hi hj c') fun v0 s6 ⟨q1, q2⟩ => ?_
            subst q1; subst q2
            simp only [↓RP, RS, Int.reduceBEq, Int.reduceBNe, Int.reduceLT, Int.reduceLE, Int.reduceAdd, Int.reduceSub, ↓reduceIte, Nat.reduceAdd, Nat.reduceMul, Nat.reduceSub, Nat.reduceLT, Nat.reduceLeDiff, Nat.reduceEqDiff, decide_true, decide_false, fieldAddrF, undE, tupE, W4, ln5, en, eb]
            refine CallK_use' h5.total fun v0 s7 ⟨q1, q2⟩ => ?_
            subst q1; subst q2
            simp only [↓RP, RS, Int.reduceBEq, Int.reduceBNe, Int.reduceLT, Int.reduceLE, Int.reduceAdd, Int.reduceSub, ↓reduceIte, Nat.reduceAdd, Nat.reduceMul, Nat.reduceSub, Nat.reduceLT, Nat.reduceLeDiff, Nat.reduceEqDiff, decide_true, decide_false, fieldAddrF, undE, tupE, W4, ln5, en, eb]
            refine CallK_use' (h5.offS hi hj c') fun v0 s8 ⟨q1, q2⟩ => ?_
            subst q1; subst q2
            simp only [↓RP, RS, Int.reduceBEq, Int.reduceBNe, Int.reduceLT, Int.reduceLE, Int.reduceAdd, Int.reduceSub, ↓reduceIte, Nat.reduceAdd, Nat.reduceMul, Nat.reduceSub, Nat.reduceLT, Nat.reduceLeDiff, Nat.reduceEqDiff, decide_true, decide_false, fieldAddrF, undE, tupE, W4, ln5, en, eb, w1]
            exact seqK_n ⟨(k + 1, _, _, _, _), ⟨h5, l5, by omega⟩, by omega, by kernel_rfl, rfl⟩
        · refine CallK_use' (receipt30 i j k _) fun v0 s0 ⟨q1, q2⟩ => ?_
          subst q1; subst q2
          simp only [↓RP, RS, Int.reduceBEq, Int.reduceBNe, Int.reduceLT, Int.reduceLE, Int.reduceAdd, Int.reduceSub, ↓reduceIte, Nat.reduceAdd, Nat.reduceMul, Nat.reduceSub, Nat.reduceLT, Nat.reduceLeDiff, Nat.reduceEqDiff, decide_true, decide_false, fieldAddrF, undE, tupE, W4]
          refine CallK_use' (hS.send hi hj c' (by omega) k) fun v0 s1 ⟨q1, h1⟩ => ?_
          subst q1
          cases b with
          | true =>
            have h5 := h1
            simp only [if_true] at h5
            have l5 : ns.length ≤ k + 1 := by omega
            simp only [↓RP, RS, Int.reduceBEq, Int.reduceBNe, Int.reduceLT, Int.reduceLE, Int.reduceAdd, Int.reduceSub, ↓reduceIte, Nat.reduceAdd, Nat.reduceMul, Nat.reduceSub, Nat.reduceLT, Nat.reduceLeDiff, Nat.reduceEqDiff, decide_true, decide_false, fieldAddrF, undE, tupE, W4]
            have a5 := alive_of h5.ptr (by simp)
            have ln5 := h5.ownA.len (P := Try.prog) (t := 55) (by simp only [W4])
            refine CallK_use' (h5.size hi hj c') fun v0 s6 ⟨q1, q2⟩ => ?_
            subst q1; subst q2
            simp only [↓RP, RS, Int.reduceBEq, Int.reduceBNe, Int.reduceLT, Int.reduceLE, Int.reduceAdd, Int.reduceSub, ↓reduceIte, Nat.reduceAdd, Nat.reduceMul, Nat.reduceSub, Nat.reduceLT, Nat.reduceLeDiff, Nat.reduceEqDiff, decide_true, decide_false, fieldAddrF, undE, tupE, W4, ln5, en, eb]
            refine CallK_use' h5.total fun v0 s7 ⟨q1, q2⟩ => ?_
            subst q1; subst q2
            simp only [↓RP, RS, Int.reduceBEq, Int.reduceBNe, Int.reduceLT, Int.reduceLE, Int.reduceAdd, Int.reduceSub, ↓reduceIte, Nat.reduceAdd, Nat.reduceMul, Nat.reduceSub, Nat.reduceLT, Nat.reduceLeDiff, Nat.reduceEqDiff, decide_true, decide_false, fieldAddrF, undE, tupE, W4, ln5, en, eb]
            refine CallK_use' (h5.offS hi hj c') fun v0 s8 ⟨q1, q2⟩ => ?_
            subst q1; subst q2
            simp only [↓RP, RS, Int.reduceBEq, Int.reduceBNe, Int.reduceLT, Int.reduceLE, Int.reduceAdd, Int.reduceSub, ↓reduceIte, Nat.reduceAdd, Nat.reduceMul, Nat.reduceSub, Nat.reduceLT, Nat.reduceLeDiff, Nat.reduceEqDiff, decide_true, decide_false, fieldAddrF, undE, tupE, W4, ln5, en, eb, w1]
            exact seqK_n ⟨(k + 1, _, _, _, _), ⟨h5, l5, by omega⟩, by omega, by kernel_rfl, rfl⟩
          | false =>
            obtain ⟨q5, s5, ap, h5⟩ := h1.app (by omega) k
            simp only [nD] at ap
            simp only [Bool.false_eq_true, if_false] at h5
            have l5 : (ns ++ [k]).length ≤ k + 1 := by simp; omega
            have bs := fun s => build_one (σ := s1) (s := s) (x := .tmp 85) (n := k)
            simp only [↓RP, RS, Int.reduceBEq, Int.reduceBNe, Int.reduceLT, Int.reduceLE, Int.reduceAdd, Int.reduceSub, ↓reduceIte, Nat.reduceAdd, Nat.reduceMul, Nat.reduceSub, Nat.reduceLT, Nat.reduceLeDiff, Nat.reduceEqDiff, decide_true, decide_false, fieldAddrF, undE, tupE, W4, bs, ap]
            have a5 := alive_of h5.ptr (by simp)
            have ln5 := h5.ownA.len (P := Try.prog) (t := 55) (by simp only [W4])
            refine CallK_use' (h5.size hi hj c') fun v0 s6 ⟨q1, q2⟩ => ?_
            subst q1; subst q2
            simp only [↓RP, RS, Int.reduceBEq, Int.reduceBNe, Int.reduceLT, Int.reduceLE, Int.reduceAdd, Int.reduceSub, ↓reduceIte, Nat.reduceAdd, Nat.reduceMul, Nat.reduceSub, Nat.reduceLT, Nat.reduceLeDiff, Nat.reduceEqDiff, decide_true, decide_false, fieldAddrF, undE, tupE, W4, ln5, en, eb]
            refine CallK_use' h5.total fun v0 s7 ⟨q1, q2⟩ => ?_
            subst q1; subst q2
            simp only [↓RP, RS, Int.reduceBEq, Int.reduceBNe, Int.reduceLT, Int.reduceLE, Int.reduceAdd, Int.reduceSub, ↓reduceIte, Nat.reduceAdd, Nat.reduceMul, Nat.reduceSub, Nat.reduceLT, Nat.reduceLeDiff, Nat.reduceEqDiff, decide_true, decide_false, fieldAddrF, undE, tupE, W4, ln5, en, eb]
            refine CallK_use' (h5.offS hi hj c') fun v0 s8 ⟨q1, q2⟩ => ?_
            subst q1; subst q2
            simp only [↓RP, RS, Int.reduceBEq, Int.reduceBNe, Int.reduceLT, Int.reduceLE, Int.reduceAdd, Int.reduceSub, ↓reduceIte, Nat.reduceAdd, Nat.reduceMul, Nat.reduceSub, Nat.reduceLT, Nat.reduceLeDiff, Nat.reduceEqDiff, decide_true, decide_false, fieldAddrF, undE, tupE, W4, ln5, en, eb, w1]
            exact seqK_n ⟨(k + 1, _, _, _, _), ⟨h5, l5, by omega⟩, by omega, by kernel_rfl, rfl⟩
        · refine CallK_use' (receipt30 i j k _) fun v0 s0 ⟨q1, q2⟩ => ?_
          subst q1; subst q2
          simp only [↓RP, RS, Int.reduceBEq, Int.reduceBNe, Int.reduceLT, Int.reduceLE, Int.reduceAdd, Int.reduceSub, ↓reduceIte, Nat.reduceAdd, Nat.reduceMul, Nat.reduceSub, Nat.reduceLT, Nat.reduceLeDiff, Nat.reduceEqDiff, decide_true, decide_false, fieldAddrF, undE, tupE, W4]
          refine CallK_use' (hS.send hi hj c' (by omega) k) fun v0 s1 ⟨q1, h1⟩ => ?_
          subst q1
          cases b with
          | true =>
            have h5 := h1
            simp only [if_true] at h5
            have l5 : ns.length ≤ k + 1 := by omega
            simp only [↓RP, RS, Int.reduceBEq, Int.reduceBNe, Int.reduceLT, Int.reduceLE, Int.reduceAdd, Int.reduceSub, ↓reduceIte, Nat.reduceAdd, Nat.reduceMul, Nat.reduceSub, Nat.reduceLT, Nat.reduceLeDiff, Nat.reduceEqDiff, decide_true, decide_false, fieldAddrF, undE, tupE, W4]
            have a5 := alive_of h5.ptr (by simp)
            have ln5 := h5.ownA.len (P := Try.prog) (t := 55) (by simp only [W4])
            refine CallK_use' (h5.size hi hj c') fun v0 s6 ⟨q1, q2⟩ => ?_
            subst q1; subst q2
            simp only [↓RP, RS, Int.reduceBEq, Int.reduceBNe, Int.reduceLT, Int.reduceLE, Int.reduceAdd, Int.reduceSub, ↓reduceIte, Nat.reduceAdd, Nat.reduceMul, Nat.reduceSub, Nat.reduceLT, Nat.reduceLeDiff, Nat.reduceEqDiff, decide_true, decide_false, fieldAddrF, undE, tupE, W4, ln5, en, eb]
            refine CallK_use' h5.total fun v0 s7 ⟨q1, q2⟩ => ?_
            subst q1; subst q2
            simp only [↓RP, RS, Int.reduceBEq, Int.reduceBNe, Int.reduceLT, Int.reduceLE, Int.reduceAdd, Int.reduceSub, ↓reduceIte, Nat.reduceAdd, Nat.reduceMul, Nat.reduceSub, Nat.reduceLT, Nat.reduceLeDiff, Nat.reduceEqDiff, decide_true, decide_false, fieldAddrF, undE, tupE, W4, ln5, en, eb]
            refine CallK_use' (h5.offS hi hj c') fun v0 s8 ⟨q1, q2⟩ => ?_
            subst q1; subst q2
            simp only [↓RP, RS, Int.reduceBEq, Int.reduceBNe, Int.reduceLT, Int.reduceLE, Int.reduceAdd, Int.reduceSub, ↓reduceIte, Nat.reduceAdd, Nat.reduceMul, Nat.reduceSub, Nat.reduceLT, Nat.reduceLeDiff, Nat.reduceEqDiff, decide_true, decide_false, fieldAddrF, undE, tupE, W4, ln5, en, eb, w1]
            exact seqK_n ⟨(k + 1, _, _, _, _), ⟨h5, l5, by omega⟩, by omega, by kernel_rfl, rfl⟩
          | false =>
            obtain ⟨q5, s5, ap, h5⟩ := h1.app (by omega) k
            simp only [nD] at ap
            simp only [Bool.false_eq_true, if_false] at h5
            have l5 : (ns ++ [k]).length ≤ k + 1 := by simp; omega
            have bs := fun s => build_one (σ := s1) (s := s) (x := .tmp 85) (n := k)
            simp only [↓RP, RS, Int.reduceBEq, Int.reduceBNe, Int.reduceLT, Int.reduceLE, Int.reduceAdd, Int.reduceSub, ↓reduceIte, Nat.reduceAdd, Nat.reduceMul, Nat.reduceSub, Nat.reduceLT, Nat.reduceLeDiff, Nat.reduceEqDiff, decide_true, decide_false, fieldAddrF, undE, tupE, W4, bs, ap]
            have a5 := alive_of h5.ptr (by simp)
            have ln5 := h5.ownA.len (P := Try.prog) (t := 55) (by simp only [W4])
            refine CallK_use' (h5.size hi hj c') fun v0 s6 ⟨q1, q2⟩ => ?_
            subst q1; subst q2
            simp only [↓RP, RS, Int.reduceBEq, Int.reduceBNe, Int.reduceLT, Int.reduceLE, Int.reduceAdd, Int.reduceSub, ↓reduceIte, Nat.reduceAdd, Nat.reduceMul, Nat.reduceSub, Nat.reduceLT, Nat.reduceLeDiff, Nat.reduceEqDiff, decide_true, decide_false, fieldAddrF, undE, tupE, W4, ln5, en, eb]
            refine CallK_use' h5.total fun v0 s7 ⟨q1, q2⟩ => ?_
            subst q1; subst q2
            simp only [↓RP, RS, Int.reduceBEq, Int.reduceBNe, Int.reduceLT, Int.reduceLE, Int.reduceAdd, Int.reduceSub, ↓reduceIte, Nat.reduceAdd, Nat.reduceMul, Nat.reduceSub, Nat.reduceLT, Nat.reduceLeDiff, Nat.reduceEqDiff, decide_true, decide_false, fieldAddrF, undE, tupE, W4, ln5, en, eb]
            refine CallK_use' (h5.offS hi hj c') fun v0 s8 ⟨q1, q2⟩ => ?_
            subst q1; subst q2
            simp only [↓RP, RS, Int.reduceBEq, Int.reduceBNe, Int.reduceLT, Int.reduceLE, Int.reduceAdd, Int.reduceSub, ↓reduceIte, Nat.reduceAdd, Nat.reduceMul, Nat.reduceSub, Nat.reduceLT, Nat.reduceLeDiff, Nat.reduceEqDiff, decide_true, decide_false, fieldAddrF, undE, tupE, W4, ln5, en, eb, w1]
            exact seqK_n ⟨(k + 1, _, _, _, _), ⟨h5, l5, by omega⟩, by omega, by kernel_rfl, rfl⟩
        · refine CallK_use' (hS.take_no hno) fun v0 s1 ⟨q1, h1⟩ => ?_
          subst q1
          obtain ⟨ms, hm, m34, m1⟩ := noMsg_ok
          have g0 : (s1 ++ [Ob.box z42])[s1.length]? = some (.box z42) := by simp
          have st := store_aggd (P := Try.prog) (t := 42) (k := 0) g0 m1 (by simp [m34]; decide) (by simp [W4, m34]) (by simp [W4])
          rw [setAt_all (by simp [m34]; decide)] at st
          have h5 : Sta L R i j ((s1 ++ [Ob.box z42]).set s1.length (.box (ms.map .d))) q ns ns b := h1.keep ⟨by simp, fun o ho _ => by rw [List.getElem?_set_ne (by omega)]; exact List.getElem?_append_left ho⟩
          have l5 : ns.length ≤ k + 1 := by omega
          generalize (s1 ++ [Ob.box z42]).set s1.length (.box (ms.map .d)) = s2 at st h5
          simp only [↓RP, RS, Int.reduceBEq, Int.reduceBNe, Int.reduceLT, Int.reduceLE, Int.reduceAdd, Int.reduceSub, ↓reduceIte, Nat.reduceAdd, Nat.reduceMul, Nat.reduceSub, Nat.reduceLT, Nat.reduceLeDiff, Nat.reduceEqDiff, decide_true, decide_false, fieldAddrF, undE, tupE, W4, hm, allocE, st]
          have a5 := alive_of h5.ptr (by simp)
          have ln5 := h5.ownA.len (P := Try.prog) (t := 55) (by simp only [W4])
          refine CallK_use' (h5.size hi hj c') fun v0 s6 ⟨q1, q2⟩ => ?_
          subst q1; subst q2
          simp only [↓RP, RS, Int.reduceBEq, Int.reduceBNe, Int.reduceLT, Int.reduceLE, Int.reduceAdd, Int.reduceSub, ↓reduceIte, Nat.reduceAdd, Nat.reduceMul, Nat.reduceSub, Nat.reduceLT, Nat.reduceLeDiff, Nat.reduceEqDiff, decide_true, decide_false, fieldAddrF, undE, tupE, W4, ln5, en, eb]
          refine CallK_use' h5.total fun v0 s7 ⟨q1, q2⟩ => ?_
          subst q1; subst q2
          simp only [↓RP, RS, Int.reduceBEq, Int.reduceBNe, Int.reduceLT, Int.reduceLE, Int.reduceAdd, Int.reduceSub, ↓reduceIte, Nat.reduceAdd, Nat.reduceMul, Nat.reduceSub, Nat.reduceLT, Nat.reduceLeDiff, Nat.reduceEqDiff, decide_true, decide_false, fieldAddrF, undE, tupE, W4, ln5, en, eb]
          refine CallK_use' (h5.offS hi hj c') fun v0 s8 ⟨q1, q2⟩ => ?_
          subst q1; subst q2
          simp only [↓RP, RS, Int.reduceBEq, Int.reduceBNe, Int.reduceLT, Int.reduceLE, Int.reduceAdd, Int.reduceSub, ↓reduceIte, Nat.reduceAdd, Nat.reduceMul, Nat.reduceSub, Nat.reduceLT, Nat.reduceLeDiff, Nat.reduceEqDiff, decide_true, decide_false, fieldAddrF, undE, tupE, W4, ln5, en, eb, w1]
          exact seqK_n ⟨(k + 1, _, _, _, _), ⟨h5, l5, by omega⟩, by omega, by kernel_rfl, rfl⟩
        · refine CallK_use' (hS.lose_no hno) fun v0 s1 ⟨q1, h5⟩ => ?_
          subst q1
          have l5 : ns.length ≤ k + 1 := by omega
          simp only [↓RP, RS, Int.reduceBEq, Int.reduceBNe, Int.reduceLT, Int.reduceLE, Int.reduceAdd, Int.reduceSub, ↓reduceIte, Nat.reduceAdd, Nat.reduceMul, Nat.reduceSub, Nat.reduceLT, Nat.reduceLeDiff, Nat.reduceEqDiff, decide_true, decide_false, fieldAddrF, undE, tupE, W4]
          have a5 := alive_of h5.ptr (by simp)
          have ln5 := h5.ownA.len (P := Try.prog) (t := 55) (by simp only [W4])
          refine CallK_use' (h5.size hi hj c') fun v0 s6 ⟨q1, q2⟩ => ?_
          subst q1; subst q2
          simp only [↓RP, RS, Int.reduceBEq, Int.reduceBNe, Int.reduceLT, Int.reduceLE, Int.reduceAdd, Int.reduceSub, ↓reduceIte, Nat.reduceAdd, Nat.reduceMul, Nat.reduceSub, Nat.reduceLT, Nat.reduceLeDiff, Nat.reduceEqDiff, decide_true, decide_false, fieldAddrF, undE, tupE, W4, ln5, en, eb]
          refine CallK_use' h5.total fun v0 s7 ⟨q1, q2⟩ => ?_
          subst q1; subst q2
          simp only [↓RP, RS, Int.reduceBEq, Int.reduceBNe, Int.reduceLT, Int.reduceLE, Int.reduceAdd, Int.reduceSub, ↓reduceIte, Nat.reduceAdd, Nat.reduceMul, Nat.reduceSub, Nat.reduceLT, Nat.reduceLeDiff, Nat.reduceEqDiff, decide_true, decide_false, fieldAddrF, undE, tupE, W4, ln5, en, eb]
          refine CallK_use' (h5.offS hi hj c') fun v0 s8 ⟨q1, q2⟩ => ?_
          subst q1; subst q2
          simp only [↓RP, RS, Int.reduceBEq, Int.reduceBNe, Int.reduceLT, Int.reduceLE, Int.reduceAdd, Int.reduceSub, ↓reduceIte, Nat.reduceAdd, Nat.reduceMul, Nat.reduceSub, Nat.reduceLT, Nat.reduceLeDiff, Nat.reduceEqDiff, decide_true, decide_false, fieldAddrF, undE, tupE, W4, ln5, en, eb, w1]
          exact seqK_n ⟨(k + 1, _, _, _, _), ⟨h5, l5, by omega⟩, by omega, by kernel_rfl, rfl⟩
        · refine CallK_use' (hS.twice_no hno) fun v0 s1 ⟨q1, h5⟩ => ?_
          subst q1
          have l5 : ns.length ≤ k + 1 := by omega
          simp only [↓RP, RS, Int.reduceBEq, Int.reduceBNe, Int.reduceLT, Int.reduceLE, Int.reduceAdd, Int.reduceSub, ↓reduceIte, Nat.reduceAdd, Nat.reduceMul, Nat.reduceSub, Nat.reduceLT, Nat.reduceLeDiff, Nat.reduceEqDiff, decide_true, decide_false, fieldAddrF, undE, tupE, W4]
          have a5 := alive_of h5.ptr (by simp)
          have ln5 := h5.ownA.len (P := Try.prog) (t := 55) (by simp only [W4])
          refine CallK_use' (h5.size hi hj c') fun v0 s6 ⟨q1, q2⟩ => ?_
          subst q1; subst q2
          simp only [↓RP, RS, Int.reduceBEq, Int.reduceBNe, Int.reduceLT, Int.reduceLE, Int.reduceAdd, Int.reduceSub, ↓reduceIte, Nat.reduceAdd, Nat.reduceMul, Nat.reduceSub, Nat.reduceLT, Nat.reduceLeDiff, Nat.reduceEqDiff, decide_true, decide_false, fieldAddrF, undE, tupE, W4, ln5, en, eb]
          refine CallK_use' h5.total fun v0 s7 ⟨q1, q2⟩ => ?_
          subst q1; subst q2
          simp only [↓RP, RS, Int.reduceBEq, Int.reduceBNe, Int.reduceLT, Int.reduceLE, Int.reduceAdd, Int.reduceSub, ↓reduceIte, Nat.reduceAdd, Nat.reduceMul, Nat.reduceSub, Nat.reduceLT, Nat.reduceLeDiff, Nat.reduceEqDiff, decide_true, decide_false, fieldAddrF, undE, tupE, W4, ln5, en, eb]
          refine CallK_use' (h5.offS hi hj c') fun v0 s8 ⟨q1, q2⟩ => ?_
          subst q1; subst q2
          simp only [↓RP, RS, Int.reduceBEq, Int.reduceBNe, Int.reduceLT, Int.reduceLE, Int.reduceAdd, Int.reduceSub, ↓reduceIte, Nat.reduceAdd, Nat.reduceMul, Nat.reduceSub, Nat.reduceLT, Nat.reduceLeDiff, Nat.reduceEqDiff, decide_true, decide_false, fieldAddrF, undE, tupE, W4, ln5, en, eb, w1]
          exact seqK_n ⟨(k + 1, _, _, _, _), ⟨h5, l5, by omega⟩, by omega, by kernel_rfl, rfl⟩
        · simp only [↓RP, RS, Int.reduceBEq, Int.reduceBNe, Int.reduceLT, Int.reduceLE, Int.reduceAdd, Int.reduceSub, ↓reduceIte, Nat.reduceAdd, Nat.reduceMul, Nat.reduceSub, Nat.reduceLT, Nat.reduceLeDiff, Nat.reduceEqDiff, decide_true, decide_false, fieldAddrF, undE, tupE, W4, x1, dr0, l0]
          refine CallK_use' (pick12 d 8 (by omega) (by omega) _) fun v0 s ⟨q1, q2⟩ => ?_
          subst q1; subst q2
          simp only [↓RP, RS, Int.reduceBEq, Int.reduceBNe, Int.reduceLT, Int.reduceLE, Int.reduceAdd, Int.reduceSub, ↓reduceIte, Nat.reduceAdd, Nat.reduceMul, Nat.reduceSub, Nat.reduceLT, Nat.reduceLeDiff, Nat.reduceEqDiff, decide_true, decide_false, fieldAddrF, undE, tupE, W4, hp]
          refine CallK_use' (hS.cut hi hj c' true) fun v0 s5 ⟨q1, h5⟩ => ?_
          subst q1
          have l5 : ns.length ≤ k + 1 := by omega
          simp only [↓RP, RS, Int.reduceBEq, Int.reduceBNe, Int.reduceLT, Int.reduceLE, Int.reduceAdd, Int.reduceSub, ↓reduceIte, Nat.reduceAdd, Nat.reduceMul, Nat.reduceSub, Nat.reduceLT, Nat.reduceLeDiff, Nat.reduceEqDiff, decide_true, decide_false, fieldAddrF, undE, tupE, W4]
          have a5 := alive_of h5.ptr (by simp)
          have ln5 := h5.ownA.len (P := Try.prog) (t := 55) (by simp only [W4])
          refine CallK_use' (h5.size hi hj c') fun v0 s6 ⟨q1, q2⟩ => ?_
          subst q1; subst q2
          simp only [↓RP, RS, Int.reduceBEq, Int.reduceBNe, Int.reduceLT, Int.reduceLE, Int.reduceAdd, Int.reduceSub, ↓reduceIte, Nat.reduceAdd, Nat.reduceMul, Nat.reduceSub, Nat.reduceLT, Nat.reduceLeDiff, Nat.reduceEqDiff, decide_true, decide_false, fieldAddrF, undE, tupE, W4, ln5, en, eb]
          refine CallK_use' h5.total fun v0 s7 ⟨q1, q2⟩ => ?_
          subst q1; subst q2
          simp only [↓RP, RS, Int.reduceBEq, Int.reduceBNe, Int.reduceLT, Int.reduceLE, Int.reduceAdd, Int.reduceSub, ↓reduceIte, Nat.reduceAdd, Nat.reduceMul, Nat.reduceSub, Nat.reduceLT, Nat.reduceLeDiff, Nat.reduceEqDiff, decide_true, decide_false, fieldAddrF, undE, tupE, W4, ln5, en, eb]
          refine CallK_use' (h5.offS hi hj c') fun v0 s8 ⟨q1, q2⟩ => ?_
          subst q1; subst q2
          simp only [↓RP, RS, Int.reduceBEq, Int.reduceBNe, Int.reduceLT, Int.reduceLE, Int.reduceAdd, Int.reduceSub, ↓reduceIte, Nat.reduceAdd, Nat.reduceMul, Nat.reduceSub, Nat.reduceLT, Nat.reduceLeDiff, Nat.reduceEqDiff, decide_true, decide_false, fieldAddrF, undE, tupE, W4, ln5, en, eb, w1]
          exact seqK_n ⟨(k + 1, _, _, _, _), ⟨h5, l5, by omega⟩, by omega, by kernel_rfl, rfl⟩
        · simp only [↓RP, RS, Int.reduceBEq, Int.reduceBNe, Int.reduceLT, Int.reduceLE, Int.reduceAdd, Int.reduceSub, ↓reduceIte, Nat.reduceAdd, Nat.reduceMul, Nat.reduceSub, Nat.reduceLT, Nat.reduceLeDiff, Nat.reduceEqDiff, decide_true, decide_false, fieldAddrF, undE, tupE, W4, x1, dr0, l0]
          refine CallK_use' (pick12 d 8 (by omega) (by omega) _) fun v0 s ⟨q1, q2⟩ => ?_
          subst q1; subst q2
          simp only [↓RP, RS, Int.reduceBEq, Int.reduceBNe, Int.reduceLT, Int.reduceLE, Int.reduceAdd, Int.reduceSub, ↓reduceIte, Nat.reduceAdd, Nat.reduceMul, Nat.reduceSub, Nat.reduceLT, Nat.reduceLeDiff, Nat.reduceEqDiff, decide_true, decide_false, fieldAddrF, undE, tupE, W4, hp]
          refine CallK_use' (hS.cut hi hj c' false) fun v0 s5 ⟨q1, h5⟩ => ?_
          subst q1
          have l5 : ns.length ≤ k + 1 := by omega
          simp only [↓RP, RS, Int.reduceBEq, Int.reduceBNe, Int.reduceLT, Int.reduceLE, Int.reduceAdd, Int.reduceSub, ↓reduceIte, Nat.reduceAdd, Nat.reduceMul, Nat.reduceSub, Nat.reduceLT, Nat.reduceLeDiff, Nat.reduceEqDiff, decide_true, decide_false, fieldAddrF, undE, tupE, W4]
          have a5 := alive_of h5.ptr (by simp)
          have ln5 := h5.ownA.len (P := Try.prog) (t := 55) (by simp only [W4])
          refine CallK_use' (h5.size hi hj c') fun v0 s6 ⟨q1, q2⟩ => ?_
          subst q1; subst q2
          simp only [↓RP, RS, Int.reduceBEq, Int.reduceBNe, Int.reduceLT, Int.reduceLE, Int.reduceAdd, Int.reduceSub, ↓reduceIte, Nat.reduceAdd, Nat.reduceMul, Nat.reduceSub, Nat.reduceLT, Nat.reduceLeDiff, Nat.reduceEqDiff, decide_true, decide_false, fieldAddrF, undE, tupE, W4, ln5, en, eb]
          refine CallK_use' h5.total fun v0 s7 ⟨q1, q2⟩ => ?_
          subst q1; subst q2
          simp only [↓RP, RS, Int.reduceBEq, Int.reduceBNe, Int.reduceLT, Int.reduceLE, Int.reduceAdd, Int.reduceSub, ↓reduceIte, Nat.reduceAdd, Nat.reduceMul, Nat.reduceSub, Nat.reduceLT, Nat.reduceLeDiff, Nat.reduceEqDiff, decide_true, decide_false, fieldAddrF, undE, tupE, W4, ln5, en, eb]
          refine CallK_use' (h5.offS hi hj c') fun v0 s8 ⟨q1, q2⟩ => ?_
          subst q1; subst q2
          simp only [↓RP, RS, Int.reduceBEq, Int.reduceBNe, Int.reduceLT, Int.reduceLE, Int.reduceAdd, Int.reduceSub, ↓reduceIte, Nat.reduceAdd, Nat.reduceMul, Nat.reduceSub, Nat.reduceLT, Nat.reduceLeDiff, Nat.reduceEqDiff, decide_true, decide_false, fieldAddrF, undE, tupE, W4, ln5, en, eb, w1]
          exact seqK_n ⟨(k + 1, _, _, _, _), ⟨h5, l5, by omega⟩, by omega, by kernel_rfl, rfl⟩
  · have e3 : decide ((k : Int) < (steps.length : Int)) = false := by simpa using hlt
    have en : ∀ n : Int, (n != n) = false := by simp
    have z34 : z42.length = 34 := by decide
    simp only [fr, ↓RP, RS, Int.reduceBEq, Int.reduceBNe, Int.reduceLT, Int.reduceLE, Int.reduceAdd, Int.reduceSub, ↓reduceIte, Nat.reduceAdd, Nat.reduceMul, Nat.reduceSub, Nat.reduceLT, Nat.reduceLeDiff, Nat.reduceEqDiff, decide_true, decide_false, fieldAddrF, undE, tupE, W4, e3]
    refine Loop_k [1, 2, 7, 8, 9, 18] (fun x : Nat × List Ob => fr 0 230 [(1, .d (.int .i64 i)), (2, .d (.int .i64 j)), (7, .d (.bool true)), (8, .ptr 1 0 0), (9, cellQ q ns.length), (18, .d (.int .i64 x.1))]) (fun x => x.2) (fun x => Sta L R i j x.2 q ns (ns.drop x.1) b ∧ x.1 ≤ ns.length) (fun x => ns.length - x.1) (0, sk) (by kernel_rfl) rfl ⟨hS, by simp⟩ fun ⟨m, sm⟩ ⟨hM, g3⟩ => ?_
    simp only at hM g3 ⊢
    have ln' := hM.ownA.len (P := Try.prog) (t := 55) (by simp only [W4])
    by_cases hm : m < ns.length
    · have e4 : decide ((m : Int) < (ns.length : Int)) = true := by simpa using hm
      have w1 : IntKind.i64.wrap ((m : Int) + 1) = ((m + 1 : Nat) : Int) := by rw [IntWalk.i64_in _ (by omega)]; rfl
      obtain ⟨v, hv⟩ : ∃ v, ns[m]? = some v := ⟨_, List.getElem?_eq_getElem hm⟩
      have hv0 : (ns.drop m)[0]? = some v := by simpa using hv
      have ed : (ns.drop m).eraseIdx 0 = ns.drop (m + 1) := by
        rw [List.drop_eq_getElem_cons hm]; rfl
      simp only [fr, ↓RP, RS, Int.reduceBEq, Int.reduceBNe, Int.reduceLT, Int.reduceLE, Int.reduceAdd, Int.reduceSub, ↓reduceIte, Nat.reduceAdd, Nat.reduceMul, Nat.reduceSub, Nat.reduceLT, Nat.reduceLeDiff, Nat.reduceEqDiff, decide_true, decide_false, fieldAddrF, undE, tupE, W4, e4, ln']
      refine CallK_use' (hM.take hi hj c' hv0) fun v0 s1 ⟨q1, h1⟩ => ?_
      subst q1
      rw [ed] at h1
      have g0 : (s1 ++ [Ob.box z42])[s1.length]? = some (.box z42) := by simp
      have st := store_aggd (P := Try.prog) (t := 42) (k := 0) g0 (xs := rcpt i j v) (rcpt_ok i j v).one (by rw [(rcpt_ok i j v).len, z34]; decide) (by rw [(rcpt_ok i j v).len]; simp only [W4]) (by simp only [W4]; decide)
      rw [setAt_all (by rw [List.length_map, (rcpt_ok i j v).len, z34])] at st
      have h2 : Sta L R i j ((s1 ++ [Ob.box z42]).set s1.length (.box ((rcpt i j v).map .d))) q ns (ns.drop (m + 1)) b := h1.keep ⟨by simp, fun o ho _ => by rw [List.getElem?_set_ne (by omega)]; exact List.getElem?_append_left ho⟩
      have g2 : ((s1 ++ [Ob.box z42]).set s1.length (.box ((rcpt i j v).map .d)))[s1.length]? = some (.box ((rcpt i j v).map .d)) := List.getElem?_set_self (by simp)
      generalize (s1 ++ [Ob.box z42]).set s1.length (.box ((rcpt i j v).map .d)) = s2 at st h2 g2
      have a3 := alive_of g2 (by simp)
      have m3 := load_box (P := Try.prog) (t := 3) (k := 13) (x := .d (.int .i64 v)) g2 rfl (by simp only [W4]) (by simp only [W4])
      obtain ⟨p, m4, m5⟩ := h2.ownA.at hv (P := Try.prog) (t := 55) (e := 3) (by simp only [W4]) (by simp only [W4]) (by simp only [W4]) (by simp only [W4])
      simp only [↓RP, RS, Int.reduceBEq, Int.reduceBNe, Int.reduceLT, Int.reduceLE, Int.reduceAdd, Int.reduceSub, ↓reduceIte, Nat.reduceAdd, Nat.reduceMul, Nat.reduceSub, Nat.reduceLT, Nat.reduceLeDiff, Nat.reduceEqDiff, decide_true, decide_false, fieldAddrF, undE, tupE, W4, allocE, st, a3, m3, m4, m5, en, w1]
      exact seqK_n ⟨(m + 1, _), ⟨h2, by omega⟩, by omega, by kernel_rfl, rfl⟩
    · have e4 : decide ((m : Int) < (ns.length : Int)) = false := by simpa using hm
      simp only [fr, ↓RP, RS, Int.reduceBEq, Int.reduceBNe, Int.reduceLT, Int.reduceLE, Int.reduceAdd, Int.reduceSub, ↓reduceIte, Nat.reduceAdd, Nat.reduceMul, Nat.reduceSub, Nat.reduceLT, Nat.reduceLeDiff, Nat.reduceEqDiff, decide_true, decide_false, fieldAddrF, undE, tupE, W4, e4, ln']
      refine CallK_use' hM.total fun v0 s1 ⟨q1, q2⟩ => ?_
      have e0 : (ns.drop m).length = 0 := by simp; omega
      rw [e0] at q1
      subst q1; subst q2
      simp only [↓RP, RS, Int.reduceBEq, Int.reduceBNe, Int.reduceLT, Int.reduceLE, Int.reduceAdd, Int.reduceSub, ↓reduceIte, Nat.reduceAdd, Nat.reduceMul, Nat.reduceSub, Nat.reduceLT, Nat.reduceLeDiff, Nat.reduceEqDiff, decide_true, decide_false, fieldAddrF, undE, tupE, W4]
      exact hK.ret (by rfl) (by rfl)
end Go.Proofs.Ytadddaafajennaa.Am
