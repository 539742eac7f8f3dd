/- The law: a link takes so many messages and no more. -/
import Derived.Test.YtadddaafajennaaNk
set_option linter.unusedSimpArgs false
set_option linter.unusedVariables false
set_option maxRecDepth 10000
namespace Go.Proofs.Ytadddaafajennaa.Am
open Go Go.Proofs

structure St (A : Links) (n i j c d t : Nat) : Prop where
  o1 : (A i j).1 = false
  l1 : (A i j).2.length = c
  o2 : (A j i).1 = false
  l2 : (A j i).2.length = d
  tot : totLen A n = t

section
variable {A : Links} {n i j c d t : Nat}
theorem St.put (h : St A n i j c d t) (hi : i < n) (hj : j < n) (hij : i ≠ j) (m : D) : St (putS A i j m) n i j (c + 1) d (t + 1) := by
  have e : putS A i j m i j = ((A i j).1, (A i j).2 ++ [m]) := by simp [putS]
  have e' : putS A i j m j i = A j i := upd2_ne _ _ (by omega)
  refine ⟨by rw [e]; exact h.o1, by rw [e]; simp [h.l1], by rw [e']; exact h.o2, by rw [e']; exact h.l2, ?_⟩
  have := tot_upd (A := A) hi hj ((A i j).1, (A i j).2 ++ [m])
  have q := h.tot
  unfold putS
  simp only [List.length_append, List.length_cons, List.length_nil] at this
  omega
theorem St.swap (h : St A n i j c d t) : St A n j i d c t := ⟨h.o2, h.l2, h.o1, h.l1, h.tot⟩
theorem St.pop (h : St A n i j c d t) (hi : i < n) (hj : j < n) (hij : i ≠ j) {k : Nat} (hk : k < c) : St (popS A i j k) n i j (c - 1) d (t - 1) := by
  have e : popS A i j k i j = ((A i j).1, (A i j).2.eraseIdx k) := by simp [popS]
  have e' : popS A i j k j i = A j i := upd2_ne _ _ (by omega)
  have le : ((A i j).2.eraseIdx k).length = c - 1 := by rw [List.length_eraseIdx_of_lt (by rw [h.l1]; exact hk), h.l1]
  refine ⟨by rw [e]; exact h.o1, by rw [e]; exact le, by rw [e']; exact h.o2, by rw [e']; exact h.l2, ?_⟩
  have := tot_upd (A := A) hi hj ((A i j).1, (A i j).2.eraseIdx k)
  have q := h.tot
  have q' := h.l1
  unfold popS
  simp only [le] at this
  omega
theorem St.cut (h : St A n i j c d t) (hi : i < n) (hj : j < n) (hij : i ≠ j) : St (upd2 A i j (false, (A i j).2)) n i j c d t := by
  have e' : upd2 A i j (false, (A i j).2) j i = A j i := upd2_ne _ _ (by omega)
  refine ⟨by simp, by simp [h.l1], by rw [e']; exact h.o2, by rw [e']; exact h.l2, ?_⟩
  have := tot_upd (A := A) hi hj (false, (A i j).2)
  have q := h.tot
  simp only at this
  omega
end

/-- The five tests of a link, in their order. -/
theorem tests_no {k : Nat} {f t : Int} (hL : ¬ isL k f t) :
    (decide (0 ≤ f) = false) ∨ (decide (0 ≤ f) = true ∧ decide (f < k) = false) ∨ (decide (0 ≤ f) = true ∧ decide (f < k) = true ∧ decide (0 ≤ t) = false) ∨ (decide (0 ≤ f) = true ∧ decide (f < k) = true ∧ decide (0 ≤ t) = true ∧ decide (t < k) = false) ∨ (decide (0 ≤ f) = true ∧ decide (f < k) = true ∧ decide (0 ≤ t) = true ∧ decide (t < k) = true ∧ (f != t) = false) := by
  unfold isL at hL
  simp only [decide_eq_false_iff_not, decide_eq_true_eq, bne_eq_false_iff_eq]
  omega

theorem full7_no (n f t : Int) (hL : ¬ isL (manyOf n) f t) : callA Try.prog 7 [.d (.int .i64 n), .d (.int .i64 f), .d (.int .i64 t)] [] fun r _ => r = .d (.bool true) := by
  refine w7.go fun K hK => ?_
  have hm : min (max n 0) 20 = ((manyOf n : Nat) : Int) := by unfold manyOf; omega
  simp only [e7, c7, p7, Try.f7, codeOf, comp, opsOf, stOf, cop, cstp, copAt, planFor, List.find?, List.find?_nil, Option.map_none, Option.getD_none, List.any_cons, List.any_nil, Stp.idx, Bool.or_false, Nat.reduceBEq, ↓RP, RS, Int.reduceBEq, Int.reduceBNe, Int.reduceLT, Int.reduceLE, Int.reduceAdd, Int.reduceSub, ↓reduceIte, Nat.reduceAdd, Nat.reduceMul, Nat.reduceSub, Nat.reduceLT, Nat.reduceLeDiff, Nat.reduceEqDiff, decide_true, decide_false, fieldAddrF, undE, tupE, W7, min2, max2]
  refine CallK_use' (small8 []) fun v σ' ⟨q1, q2⟩ => ?_
  subst q1; subst q2
  simp only [↓RP, RS, Int.reduceBEq, Int.reduceBNe, Int.reduceLT, Int.reduceLE, Int.reduceAdd, Int.reduceSub, ↓reduceIte, Nat.reduceAdd, Nat.reduceMul, Nat.reduceSub, Nat.reduceLT, Nat.reduceLeDiff, Nat.reduceEqDiff, decide_true, decide_false, fieldAddrF, undE, tupE, W7]
  refine CallK_use' (new9 n []) fun v σ' ⟨L, R, Q, role, q1, h, k1⟩ => ?_
  subst q1
  simp only [List.length_nil, Nat.zero_add] at h ⊢
  have a1 := alive_of h.hx (by simp)
  generalize hk : manyOf n = k at h hL hm
  rcases tests_no hL with d1 | ⟨d1, d2⟩ | ⟨d1, d2, d3⟩ | ⟨d1, d2, d3, d4⟩ | ⟨d1, d2, d3, d4, d5⟩
  all_goals
    simp only [↓RP, RS, Int.reduceBEq, Int.reduceBNe, Int.reduceLT, Int.reduceLE, Int.reduceAdd, Int.reduceSub, ↓reduceIte, Nat.reduceAdd, Nat.reduceMul, Nat.reduceSub, Nat.reduceLT, Nat.reduceLeDiff, Nat.reduceEqDiff, decide_true, decide_false, fieldAddrF, undE, tupE, W7, a1, min2, max2, hm, *]
    refine CallK_use' (cut21 h f t false) fun v s1 ⟨q1, Q1, r1, h1, k2⟩ => ?_
    obtain rfl : v = .d (.bool false) := by simpa [hL] using q1
    simp only [hL, if_false] at h1
    simp only [↓RP, RS, Int.reduceBEq, Int.reduceBNe, Int.reduceLT, Int.reduceLE, Int.reduceAdd, Int.reduceSub, ↓reduceIte, Nat.reduceAdd, Nat.reduceMul, Nat.reduceSub, Nat.reduceLT, Nat.reduceLeDiff, Nat.reduceEqDiff, decide_true, decide_false, fieldAddrF, undE, tupE, W7]
    refine CallK_use' (receipt30 f t 0 _) fun v s2 ⟨q2, q3⟩ => ?_
    subst q2; subst q3
    simp only [↓RP, RS, Int.reduceBEq, Int.reduceBNe, Int.reduceLT, Int.reduceLE, Int.reduceAdd, Int.reduceSub, ↓reduceIte, Nat.reduceAdd, Nat.reduceMul, Nat.reduceSub, Nat.reduceLT, Nat.reduceLeDiff, Nat.reduceEqDiff, decide_true, decide_false, fieldAddrF, undE, tupE, W7]
    refine CallK_use' (send13 h1 (rcpt_ok f t 0)) fun v s3 ⟨q2, Q2, r2, h2, k3⟩ => ?_
    obtain rfl : v = .d (.bool false) := by simpa [okS, hL] using q2
    simp only [okS, hL, false_and, if_false] at h2
    simp only [↓RP, RS, Int.reduceBEq, Int.reduceBNe, Int.reduceLT, Int.reduceLE, Int.reduceAdd, Int.reduceSub, ↓reduceIte, Nat.reduceAdd, Nat.reduceMul, Nat.reduceSub, Nat.reduceLT, Nat.reduceLeDiff, Nat.reduceEqDiff, decide_true, decide_false, fieldAddrF, undE, tupE, W7]
    refine CallK_use' (off26 h2 f t) fun v s4 ⟨q2, q3⟩ => ?_
    obtain rfl : v = .d (.bool false) := by simpa [hL] using q2
    subst q3
    simp only [↓RP, RS, Int.reduceBEq, Int.reduceBNe, Int.reduceLT, Int.reduceLE, Int.reduceAdd, Int.reduceSub, ↓reduceIte, Nat.reduceAdd, Nat.reduceMul, Nat.reduceSub, Nat.reduceLT, Nat.reduceLeDiff, Nat.reduceEqDiff, decide_true, decide_false, fieldAddrF, undE, tupE, W7]
    refine CallK_use' (size24 h2 f t) fun v s4 ⟨q2, q3⟩ => ?_
    obtain rfl : v = .d (.int .i64 0) := by simpa [hL] using q2
    subst q3
    simp only [↓RP, RS, Int.reduceBEq, Int.reduceBNe, Int.reduceLT, Int.reduceLE, Int.reduceAdd, Int.reduceSub, ↓reduceIte, Nat.reduceAdd, Nat.reduceMul, Nat.reduceSub, Nat.reduceLT, Nat.reduceLeDiff, Nat.reduceEqDiff, decide_true, decide_false, fieldAddrF, undE, tupE, W7]
    refine CallK_use' (total28 h2) fun v s4 ⟨q2, q3⟩ => ?_
    obtain rfl : v = .d (.int .i64 0) := by simpa [tot_zero] using q2
    subst q3
    simp only [↓RP, RS, Int.reduceBEq, Int.reduceBNe, Int.reduceLT, Int.reduceLE, Int.reduceAdd, Int.reduceSub, ↓reduceIte, Nat.reduceAdd, Nat.reduceMul, Nat.reduceSub, Nat.reduceLT, Nat.reduceLeDiff, Nat.reduceEqDiff, decide_true, decide_false, fieldAddrF, undE, tupE, W7]
    refine CallK_use' (twice19 h2 f t 0) fun v s4 ⟨q2, Q3, r3, h3, k4⟩ => ?_
    obtain rfl : v = .d (.bool false) := by simpa [okW, hasT, hL] using q2
    simp only [↓RP, RS, Int.reduceBEq, Int.reduceBNe, Int.reduceLT, Int.reduceLE, Int.reduceAdd, Int.reduceSub, ↓reduceIte, Nat.reduceAdd, Nat.reduceMul, Nat.reduceSub, Nat.reduceLT, Nat.reduceLeDiff, Nat.reduceEqDiff, decide_true, decide_false, fieldAddrF, undE, tupE, W7]
    exact hK.ret (by rfl) (by rfl)

theorem full7_yes (n f t : Int) (hL : isL (manyOf n) f t) : callA Try.prog 7 [.d (.int .i64 n), .d (.int .i64 f), .d (.int .i64 t)] [] fun r _ => r = .d (.bool true) := by
  refine w7.go fun K hK => ?_
  have hm : min (max n 0) 20 = ((manyOf n : Nat) : Int) := by unfold manyOf; omega
  simp only [e7, c7, p7, Try.f7, codeOf, comp, opsOf, stOf, cop, cstp, copAt, planFor, List.find?, List.find?_nil, Option.map_none, Option.getD_none, List.any_cons, List.any_nil, Stp.idx, Bool.or_false, Nat.reduceBEq, ↓RP, RS, Int.reduceBEq, Int.reduceBNe, Int.reduceLT, Int.reduceLE, Int.reduceAdd, Int.reduceSub, ↓reduceIte, Nat.reduceAdd, Nat.reduceMul, Nat.reduceSub, Nat.reduceLT, Nat.reduceLeDiff, Nat.reduceEqDiff, decide_true, decide_false, fieldAddrF, undE, tupE, W7, min2, max2]
  refine CallK_use' (small8 []) fun v σ' ⟨q1, q2⟩ => ?_
  subst q1; subst q2
  simp only [↓RP, RS, Int.reduceBEq, Int.reduceBNe, Int.reduceLT, Int.reduceLE, Int.reduceAdd, Int.reduceSub, ↓reduceIte, Nat.reduceAdd, Nat.reduceMul, Nat.reduceSub, Nat.reduceLT, Nat.reduceLeDiff, Nat.reduceEqDiff, decide_true, decide_false, fieldAddrF, undE, tupE, W7]
  refine CallK_use' (new9 n []) fun v σ' ⟨L, R, Q, role, q1, h, k1⟩ => ?_
  subst q1
  simp only [List.length_nil, Nat.zero_add] at h ⊢
  have a1 := alive_of h.hx (by simp)
  generalize hk : manyOf n = k at h hL hm
  obtain ⟨i, hi⟩ : ∃ i : Nat, f = i := ⟨f.toNat, by unfold isL at hL; omega⟩
  obtain ⟨j, hj⟩ : ∃ j : Nat, t = j := ⟨t.toNat, by unfold isL at hL; omega⟩
  subst hi; subst hj
  have hi : i < k := by unfold isL at hL; omega
  have hj : j < k := by unfold isL at hL; omega
  have hij : i ≠ j := by unfold isL at hL; omega
  have hL' : isL k j i := by unfold isL at hL ⊢; omega
  have d1 : decide (0 ≤ (i : Int)) = true := by simp
  have d2 : decide ((i : Int) < k) = true := by simpa using hi
  have d3 : decide (0 ≤ (j : Int)) = true := by simp
  have d4 : decide ((j : Int) < k) = true := by simpa using hj
  have d5 : ((i : Int) != (j : Int)) = true := by simp; omega
  have t0 : St (fun _ _ => (false, [])) k i j 0 0 0 := ⟨rfl, rfl, rfl, rfl, tot_zero k⟩
  simp only [↓RP, RS, Int.reduceBEq, Int.reduceBNe, Int.reduceLT, Int.reduceLE, Int.reduceAdd, Int.reduceSub, ↓reduceIte, Nat.reduceAdd, Nat.reduceMul, Nat.reduceSub, Nat.reduceLT, Nat.reduceLeDiff, Nat.reduceEqDiff, decide_true, decide_false, fieldAddrF, undE, tupE, W7, a1, min2, max2, hm, d1, d2, d3, d4, d5]
  refine CallK_use' (cut21 h i j false) fun v s1 ⟨q1, Q1, r1, h1, k2⟩ => ?_
  obtain rfl : v = .d (.bool true) := by simpa [hL] using q1
  simp only [hL, if_true, Int.toNat_natCast] at h1
  have t1 := t0.cut hi hj hij
  generalize upd2 (fun _ _ => (false, [])) i j (false, (false, ([] : List D)).2) = A1 at h1 t1
  simp only [↓RP, RS, Int.reduceBEq, Int.reduceBNe, Int.reduceLT, Int.reduceLE, Int.reduceAdd, Int.reduceSub, ↓reduceIte, Nat.reduceAdd, Nat.reduceMul, Nat.reduceSub, Nat.reduceLT, Nat.reduceLeDiff, Nat.reduceEqDiff, decide_true, decide_false, fieldAddrF, undE, tupE, W7]
  refine CallK_use' (receipt30 i j 0 _) fun v s2 ⟨q2, q3⟩ => ?_
  subst q2; subst q3
  simp only [↓RP, RS, Int.reduceBEq, Int.reduceBNe, Int.reduceLT, Int.reduceLE, Int.reduceAdd, Int.reduceSub, ↓reduceIte, Nat.reduceAdd, Nat.reduceMul, Nat.reduceSub, Nat.reduceLT, Nat.reduceLeDiff, Nat.reduceEqDiff, decide_true, decide_false, fieldAddrF, undE, tupE, W7]
  refine CallK_use' (send13 h1 (rcpt_ok i j 0)) fun v s3 ⟨q2, Q2, r2, h2, k3⟩ => ?_
  have ok : okS k A1 (i : Int) (j : Int) := ⟨hL, by simp [t1.o1], by simp [t1.l1]⟩
  obtain rfl : v = .d (.bool true) := by simpa [ok] using q2
  simp only [ok, if_true, Int.toNat_natCast] at h2
  have t2 := t1.put hi hj hij (.agg (rcpt i j 0))
  generalize putS A1 i j (.agg (rcpt i j 0)) = A2 at h2 t2
  simp only [↓RP, RS, Int.reduceBEq, Int.reduceBNe, Int.reduceLT, Int.reduceLE, Int.reduceAdd, Int.reduceSub, ↓reduceIte, Nat.reduceAdd, Nat.reduceMul, Nat.reduceSub, Nat.reduceLT, Nat.reduceLeDiff, Nat.reduceEqDiff, decide_true, decide_false, fieldAddrF, undE, tupE, W7]
  refine CallK_use' (off26 h2 i j) fun v s4 ⟨q2, q3⟩ => ?_
  obtain rfl : v = .d (.bool false) := by simpa [hL, t2.o1] using q2
  subst q3
  simp only [↓RP, RS, Int.reduceBEq, Int.reduceBNe, Int.reduceLT, Int.reduceLE, Int.reduceAdd, Int.reduceSub, ↓reduceIte, Nat.reduceAdd, Nat.reduceMul, Nat.reduceSub, Nat.reduceLT, Nat.reduceLeDiff, Nat.reduceEqDiff, decide_true, decide_false, fieldAddrF, undE, tupE, W7]
  refine Loop_k [1, 2, 7, 8, 11] (fun x : Nat × List Ob => fr 0 147 [(1, .d (.int .i64 i)), (2, .d (.int .i64 j)), (7, .d (.bool true)), (8, .ptr 1 0 0), (11, .d (.int .i64 x.1))]) (fun x => x.2) (fun x => ∃ A Q role, NetAt x.2 1 k A L R Q role ∧ St A k i j x.1 0 x.1 ∧ 1 ≤ x.1 ∧ x.1 ≤ 1024) (fun x => 1024 - x.1) (1, s4) (by kernel_rfl) rfl ⟨A2, Q2, r2, h2, t2, by simp, by simp⟩ fun ⟨m, sm⟩ ⟨Am, Qm, rm, hm', tm, g1, g2⟩ => ?_
  simp only at hm' tm g1 g2 ⊢
  by_cases hlt : m < 1024
  · have e1 : decide ((m : Int) < 1024) = true := by simp; omega
    have w1 : IntKind.i64.wrap ((m : Int) - 1) = ((m - 1 : Nat) : Int) := by rw [IntWalk.i64_in _ (by omega)]; omega
    have w2 : IntKind.i64.wrap ((m : Int) + 1) = ((m + 1 : Nat) : Int) := by rw [IntWalk.i64_in _ (by omega)]; rfl
    simp only [fr, ↓RP, RS, Int.reduceBEq, Int.reduceBNe, Int.reduceLT, Int.reduceLE, Int.reduceAdd, Int.reduceSub, ↓reduceIte, Nat.reduceAdd, Nat.reduceMul, Nat.reduceSub, Nat.reduceLT, Nat.reduceLeDiff, Nat.reduceEqDiff, decide_true, decide_false, fieldAddrF, undE, tupE, W7, e1, w1]
    refine CallK_use' (twice19 hm' i j (m - 1 : Nat)) fun v s5 ⟨q1, Q5, r5, h5, k5⟩ => ?_
    have ok : okW k Am (i : Int) (j : Int) ((m - 1 : Nat) : Int) := ⟨⟨hL, by omega, by simp [tm.l1]; omega⟩, by simp [tm.l1]; omega⟩
    obtain rfl : v = .d (.bool true) := by simpa [ok] using q1
    simp only [ok, if_true, Int.toNat_natCast] at h5
    simp only [↓RP, RS, Int.reduceBEq, Int.reduceBNe, Int.reduceLT, Int.reduceLE, Int.reduceAdd, Int.reduceSub, ↓reduceIte, Nat.reduceAdd, Nat.reduceMul, Nat.reduceSub, Nat.reduceLT, Nat.reduceLeDiff, Nat.reduceEqDiff, decide_true, decide_false, fieldAddrF, undE, tupE, W7, w2]
    exact seqK_n ⟨(m + 1, s5), ⟨_, _, _, h5, tm.put hi hj hij _, by simp, by simp; omega⟩, by simp; omega, by kernel_rfl, rfl⟩
  · have e1 : decide ((m : Int) < 1024) = false := by simp; omega
    have : m = 1024 := by omega
    subst this
    simp only [fr, ↓RP, RS, Int.reduceBEq, Int.reduceBNe, Int.reduceLT, Int.reduceLE, Int.reduceAdd, Int.reduceSub, ↓reduceIte, Nat.reduceAdd, Nat.reduceMul, Nat.reduceSub, Nat.reduceLT, Nat.reduceLeDiff, Nat.reduceEqDiff, decide_true, decide_false, fieldAddrF, undE, tupE, W7, e1]
    refine CallK_use' (size24 hm' i j) fun v s5 ⟨q2, q3⟩ => ?_
    obtain rfl : v = .d (.int .i64 1024) := by simpa [hL, tm.l1] using q2
    subst q3
    simp only [↓RP, RS, Int.reduceBEq, Int.reduceBNe, Int.reduceLT, Int.reduceLE, Int.reduceAdd, Int.reduceSub, ↓reduceIte, Nat.reduceAdd, Nat.reduceMul, Nat.reduceSub, Nat.reduceLT, Nat.reduceLeDiff, Nat.reduceEqDiff, decide_true, decide_false, fieldAddrF, undE, tupE, W7]
    refine CallK_use' (receipt30 i j 1 _) fun v s2 ⟨q2, q3⟩ => ?_
    subst q2; subst q3
    simp only [↓RP, RS, Int.reduceBEq, Int.reduceBNe, Int.reduceLT, Int.reduceLE, Int.reduceAdd, Int.reduceSub, ↓reduceIte, Nat.reduceAdd, Nat.reduceMul, Nat.reduceSub, Nat.reduceLT, Nat.reduceLeDiff, Nat.reduceEqDiff, decide_true, decide_false, fieldAddrF, undE, tupE, W7]
    refine CallK_use' (send13 hm' (rcpt_ok i j 1)) fun v s3 ⟨q2, Q5, r5, h5, k5⟩ => ?_
    have no : ¬ okS k Am (i : Int) (j : Int) := fun q => by have := q.2.2; simp [tm.l1] at this
    obtain rfl : v = .d (.bool false) := by simpa [no] using q2
    simp only [no, if_false] at h5
    simp only [↓RP, RS, Int.reduceBEq, Int.reduceBNe, Int.reduceLT, Int.reduceLE, Int.reduceAdd, Int.reduceSub, ↓reduceIte, Nat.reduceAdd, Nat.reduceMul, Nat.reduceSub, Nat.reduceLT, Nat.reduceLeDiff, Nat.reduceEqDiff, decide_true, decide_false, fieldAddrF, undE, tupE, W7]
    refine CallK_use' (twice19 h5 i j 0) fun v s6 ⟨q1, Q6, r6, h6, k6⟩ => ?_
    have no : ¬ okW k Am (i : Int) (j : Int) 0 := fun q => by have := q.2; simp [tm.l1] at this
    obtain rfl : v = .d (.bool false) := by simpa [no] using q1
    simp only [no, if_false] at h6
    simp only [↓RP, RS, Int.reduceBEq, Int.reduceBNe, Int.reduceLT, Int.reduceLE, Int.reduceAdd, Int.reduceSub, ↓reduceIte, Nat.reduceAdd, Nat.reduceMul, Nat.reduceSub, Nat.reduceLT, Nat.reduceLeDiff, Nat.reduceEqDiff, decide_true, decide_false, fieldAddrF, undE, tupE, W7]
    refine CallK_use' (receipt30 j i 1 _) fun v s2 ⟨q2, q3⟩ => ?_
    subst q2; subst q3
    simp only [↓RP, RS, Int.reduceBEq, Int.reduceBNe, Int.reduceLT, Int.reduceLE, Int.reduceAdd, Int.reduceSub, ↓reduceIte, Nat.reduceAdd, Nat.reduceMul, Nat.reduceSub, Nat.reduceLT, Nat.reduceLeDiff, Nat.reduceEqDiff, decide_true, decide_false, fieldAddrF, undE, tupE, W7]
    refine CallK_use' (send13 h6 (rcpt_ok j i 1)) fun v s7 ⟨q2, Q7, r7, h7, k7⟩ => ?_
    have ok : okS k Am (j : Int) (i : Int) := ⟨hL', by simp [tm.o2], by simp [tm.l2]⟩
    obtain rfl : v = .d (.bool true) := by simpa [ok] using q2
    simp only [ok, if_true, Int.toNat_natCast] at h7
    have t7 := (tm.swap.put hj hi (fun e => hij e.symm) (.agg (rcpt j i 1))).swap
    generalize putS Am j i (.agg (rcpt j i 1)) = A7 at h7 t7
    simp only [↓RP, RS, Int.reduceBEq, Int.reduceBNe, Int.reduceLT, Int.reduceLE, Int.reduceAdd, Int.reduceSub, ↓reduceIte, Nat.reduceAdd, Nat.reduceMul, Nat.reduceSub, Nat.reduceLT, Nat.reduceLeDiff, Nat.reduceEqDiff, decide_true, decide_false, fieldAddrF, undE, tupE, W7]
    refine CallK_use' (lose17 h7 i j 1023) fun v s8 ⟨q2, Q8, r8, h8, k8⟩ => ?_
    have ok : hasT k A7 (i : Int) (j : Int) 1023 := ⟨hL, by omega, by simp [t7.l1]⟩
    obtain rfl : v = .d (.bool true) := by simpa [ok] using q2
    simp only [ok, if_true, Int.toNat_natCast] at h8
    have t8 := t7.pop hi hj hij (k := (1023 : Int).toNat) (by decide)
    generalize popS A7 i j (1023 : Int).toNat = A8 at h8 t8
    simp only [↓RP, RS, Int.reduceBEq, Int.reduceBNe, Int.reduceLT, Int.reduceLE, Int.reduceAdd, Int.reduceSub, ↓reduceIte, Nat.reduceAdd, Nat.reduceMul, Nat.reduceSub, Nat.reduceLT, Nat.reduceLeDiff, Nat.reduceEqDiff, decide_true, decide_false, fieldAddrF, undE, tupE, W7]
    refine CallK_use' (lose17 h8 i j 1023) fun v s9 ⟨q2, Q9, r9, h9, k9⟩ => ?_
    have no : ¬ hasT k A8 (i : Int) (j : Int) 1023 := fun q => by have := q.2.2; simp [t8.l1] at this
    obtain rfl : v = .d (.bool false) := by simpa [no] using q2
    simp only [no, if_false] at h9
    simp only [↓RP, RS, Int.reduceBEq, Int.reduceBNe, Int.reduceLT, Int.reduceLE, Int.reduceAdd, Int.reduceSub, ↓reduceIte, Nat.reduceAdd, Nat.reduceMul, Nat.reduceSub, Nat.reduceLT, Nat.reduceLeDiff, Nat.reduceEqDiff, decide_true, decide_false, fieldAddrF, undE, tupE, W7]
    refine CallK_use' (receipt30 i j 9 _) fun v s2 ⟨q2, q3⟩ => ?_
    subst q2; subst q3
    simp only [↓RP, RS, Int.reduceBEq, Int.reduceBNe, Int.reduceLT, Int.reduceLE, Int.reduceAdd, Int.reduceSub, ↓reduceIte, Nat.reduceAdd, Nat.reduceMul, Nat.reduceSub, Nat.reduceLT, Nat.reduceLeDiff, Nat.reduceEqDiff, decide_true, decide_false, fieldAddrF, undE, tupE, W7]
    refine CallK_use' (send13 h9 (rcpt_ok i j 9)) fun v s10 ⟨q2, Q10, r10, h10, k10⟩ => ?_
    have ok : okS k A8 (i : Int) (j : Int) := ⟨hL, by simp [t8.o1], by simp [t8.l1]⟩
    obtain rfl : v = .d (.bool true) := by simpa [ok] using q2
    simp only [ok, if_true, Int.toNat_natCast] at h10
    have t10 := t8.put hi hj hij (.agg (rcpt i j 9))
    simp only [↓RP, RS, Int.reduceBEq, Int.reduceBNe, Int.reduceLT, Int.reduceLE, Int.reduceAdd, Int.reduceSub, ↓reduceIte, Nat.reduceAdd, Nat.reduceMul, Nat.reduceSub, Nat.reduceLT, Nat.reduceLeDiff, Nat.reduceEqDiff, decide_true, decide_false, fieldAddrF, undE, tupE, W7]
    refine CallK_use' (total28 h10) fun v s11 ⟨q2, q3⟩ => ?_
    obtain rfl : v = .d (.int .i64 1025) := by simpa [t10.tot] using q2
    subst q3
    simp only [↓RP, RS, Int.reduceBEq, Int.reduceBNe, Int.reduceLT, Int.reduceLE, Int.reduceAdd, Int.reduceSub, ↓reduceIte, Nat.reduceAdd, Nat.reduceMul, Nat.reduceSub, Nat.reduceLT, Nat.reduceLeDiff, Nat.reduceEqDiff, decide_true, decide_false, fieldAddrF, undE, tupE, W7]
    exact hK.ret (by rfl) (by rfl)

theorem full7 (n f t : Int) : callA Try.prog 7 [.d (.int .i64 n), .d (.int .i64 f), .d (.int .i64 t)] [] fun r _ => r = .d (.bool true) := by
  by_cases hL : isL (manyOf n) f t
  · exact full7_yes n f t hL
  · exact full7_no n f t hL
end Go.Proofs.Ytadddaafajennaa.Am
