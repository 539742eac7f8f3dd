/- The law IndexForgets. -/
import Derived.Test.YtjidelngljpbdaaIp
set_option linter.unusedSimpArgs false
set_option linter.unusedVariables false
set_option maxRecDepth 10000
set_option maxHeartbeats 2000000
namespace Go.Proofs.Ytjidelngljpbdaa.Am
open Go Go.Proofs

theorem setA_ids : ∀ (ss : List StepI) (A : W → List W) (id : W), setA A ss id = A id ∨ id ∈ ss.map (·.2.1)
  | [], A, id => .inl rfl
  | e :: ss, A, id => by
    have ih := setA_ids ss (doA A e) id
    simp only [setA, List.foldl_cons] at ih ⊢
    rcases ih with g | g
    · rw [g]
      unfold doA
      split
      · unfold updA
        split
        · rename_i h; right; simp [h]
        · exact .inl rfl
      · split
        · unfold updA
          split
          · rename_i h; right; simp [h]
          · exact .inl rfl
        · exact .inl rfl
    · right; simp only [List.map_cons, List.mem_cons]; exact .inr g

theorem FoundOk.len {σ : List Ob} {x t i : Nat} {S : Nat → Prop} {A : W → List W} {L ws l : List W} (h : IxG σ x t i S A L) (g : FoundOk A ws l) : l.length ≤ L.length := by
  obtain ⟨tes, tc, ies, ic, H⟩ := h
  refine nodup_le (g.1.imp fun {a b} hab e => ?_) fun id hid => ?_
  · subst e; exact List.lt_irrefl _ hab
  · obtain ⟨h1, h2⟩ := (g.2 id).1 hid
    cases ws with
    | nil => exact (h1 rfl).elim
    | cons w ws => exact H.lim w id (h2 w (by simp))

theorem forgets5 (sa sb : List StepI) (ws : List W) : callA Try.prog 5 [stepsV sa, stepsV sb, .d (.lst 1 (ws.map .str))] [] fun r _ => r = .d (.bool true) := by
  refine w5.go fun K hK => ?_
  simp only [e5, c5, p5, Try.f5, codeOf, comp, opsOf, stOf, cop, cstp, copAt, planFor, List.find?, List.find?_nil, Option.map_none, Option.getD_none, List.any_cons, List.any_nil, Stp.idx, Bool.or_false, Nat.reduceBEq, ↓RP, RS, Int.reduceBEq, Int.reduceBNe, Int.reduceLT, Int.reduceLE, Int.reduceAdd, Int.reduceSub, ↓reduceIte, Nat.reduceAdd, Nat.reduceMul, Nat.reduceSub, Nat.reduceLT, Nat.reduceLeDiff, Nat.reduceEqDiff, decide_true, decide_false, fieldAddrF, undE, tupE, W5]
  refine CallK_use' (small8 []) fun v0 s1 ⟨q1, q2⟩ => ?_
  subst q1; rw [q2]
  simp only [↓RP, RS, Int.reduceBEq, Int.reduceBNe, Int.reduceLT, Int.reduceLE, Int.reduceAdd, Int.reduceSub, ↓reduceIte, Nat.reduceAdd, Nat.reduceMul, Nat.reduceSub, Nat.reduceLT, Nat.reduceLeDiff, Nat.reduceEqDiff, decide_true, decide_false, fieldAddrF, undE, tupE, W5]
  refine CallK_use' (few13 sa []) fun v0 s1 ⟨q2, b1, q1, f1⟩ => ?_
  subst q1; rw [q2]
  simp only [↓RP, RS, Int.reduceBEq, Int.reduceBNe, Int.reduceLT, Int.reduceLE, Int.reduceAdd, Int.reduceSub, ↓reduceIte, Nat.reduceAdd, Nat.reduceMul, Nat.reduceSub, Nat.reduceLT, Nat.reduceLeDiff, Nat.reduceEqDiff, decide_true, decide_false, fieldAddrF, undE, tupE, W5]
  refine CallK_use' (few13 sb []) fun v0 s1 ⟨q2, b2, q1, f2⟩ => ?_
  subst q1; rw [q2]
  simp only [↓RP, RS, Int.reduceBEq, Int.reduceBNe, Int.reduceLT, Int.reduceLE, Int.reduceAdd, Int.reduceSub, ↓reduceIte, Nat.reduceAdd, Nat.reduceMul, Nat.reduceSub, Nat.reduceLT, Nat.reduceLeDiff, Nat.reduceEqDiff, decide_true, decide_false, fieldAddrF, undE, tupE, W5]
  refine CallK_use' (words21 (.val ws)) fun v0 s1 ⟨q2, b3, q1, f3⟩ => ?_
  subst q1; rw [q2]
  simp only [↓RP, RS, Int.reduceBEq, Int.reduceBNe, Int.reduceLT, Int.reduceLE, Int.reduceAdd, Int.reduceSub, ↓reduceIte, Nat.reduceAdd, Nat.reduceMul, Nat.reduceSub, Nat.reduceLT, Nat.reduceLeDiff, Nat.reduceEqDiff, decide_true, decide_false, fieldAddrF, undE, tupE, W5]
  refine CallK_use' (new14 []) fun v0 s1 ⟨x, t, i, S1, q1, I1, kp1, hS1⟩ => ?_
  subst q1
  simp only [↓RP, RS, Int.reduceBEq, Int.reduceBNe, Int.reduceLT, Int.reduceLE, Int.reduceAdd, Int.reduceSub, ↓reduceIte, Nat.reduceAdd, Nat.reduceMul, Nat.reduceSub, Nat.reduceLT, Nat.reduceLeDiff, Nat.reduceEqDiff, decide_true, decide_false, fieldAddrF, undE, tupE, W5]
  refine CallK_use' (new14 s1) fun v0 s2 ⟨y, t', i', S2, q1, J2, kp2, hS2⟩ => ?_
  subst q1
  have I2 := I1.keep kp2 (fun _ _ h => h)
  have ax := I2.alive
  have ay := J2.alive
  cases b1 with
  | false =>
    simp only [↓RP, RS, Int.reduceBEq, Int.reduceBNe, Int.reduceLT, Int.reduceLE, Int.reduceAdd, Int.reduceSub, ↓reduceIte, Nat.reduceAdd, Nat.reduceMul, Nat.reduceSub, Nat.reduceLT, Nat.reduceLeDiff, Nat.reduceEqDiff, decide_true, decide_false, fieldAddrF, undE, tupE, W5, ax, ay]
    exact hK.ret (by rfl) rfl
  | true =>
  cases b2 with
  | false =>
    simp only [↓RP, RS, Int.reduceBEq, Int.reduceBNe, Int.reduceLT, Int.reduceLE, Int.reduceAdd, Int.reduceSub, ↓reduceIte, Nat.reduceAdd, Nat.reduceMul, Nat.reduceSub, Nat.reduceLT, Nat.reduceLeDiff, Nat.reduceEqDiff, decide_true, decide_false, fieldAddrF, undE, tupE, W5, ax, ay]
    exact hK.ret (by rfl) rfl
  | true =>
  cases b3 with
  | false =>
    simp only [↓RP, RS, Int.reduceBEq, Int.reduceBNe, Int.reduceLT, Int.reduceLE, Int.reduceAdd, Int.reduceSub, ↓reduceIte, Nat.reduceAdd, Nat.reduceMul, Nat.reduceSub, Nat.reduceLT, Nat.reduceLeDiff, Nat.reduceEqDiff, decide_true, decide_false, fieldAddrF, undE, tupE, W5, ax, ay]
    exact hK.ret (by rfl) rfl
  | true =>
  have hfa := f1 rfl
  have hfb := f2 rfl
  have hfw := f3 rfl
  have hB0 : BndA (fun _ => []) := fun _ => by simp
  simp only [↓RP, RS, Int.reduceBEq, Int.reduceBNe, Int.reduceLT, Int.reduceLE, Int.reduceAdd, Int.reduceSub, ↓reduceIte, Nat.reduceAdd, Nat.reduceMul, Nat.reduceSub, Nat.reduceLT, Nat.reduceLeDiff, Nat.reduceEqDiff, decide_true, decide_false, fieldAddrF, undE, tupE, W5, ax, ay]
  refine CallK_use' (set22 I2 hB0 sa hfa) fun v0 s3 ⟨q1, S3, L3, I3, B3, hL3, kp3, hS3⟩ => ?_
  subst q1
  simp only [List.length_nil, Nat.zero_add] at hL3
  have d12 : ∀ o, S2 o → ¬ S1 o := fun o h1 h2 => by have := hS2 o h1; have := I1.lt h2; omega
  have J3 := J2.keep kp3 d12
  have d32 : ∀ o, S2 o → ¬ S3 o := fun o h1 h2 => by
    rcases hS3 o h2 with g | g
    · exact d12 o h1 g
    · have := J2.lt h1; omega
  have h40 := hfa.1
  simp only [↓RP, RS, Int.reduceBEq, Int.reduceBNe, Int.reduceLT, Int.reduceLE, Int.reduceAdd, Int.reduceSub, ↓reduceIte, Nat.reduceAdd, Nat.reduceMul, Nat.reduceSub, Nat.reduceLT, Nat.reduceLeDiff, Nat.reduceEqDiff, decide_true, decide_false, fieldAddrF, undE, tupE, W5, List.length_map]
  refine Loop_k [0, 1, 2, 7, 11, 12, 13] (fun z : Nat × List Ob => fr 0 88 [(0, stepsV sa), (1, stepsV sb), (2, .d (.lst 1 (ws.map .str))), (7, .d (.bool true)), (11, .ptr x 0 0), (12, .ptr y 0 0), (13, .d (.int .i64 z.1))]) (fun z => z.2)
    (fun z => z.1 ≤ sa.length ∧ ∃ A, IxG z.2 x t i S3 A L3 ∧ BndA A ∧ (∀ id, A id = [] ∨ id ∈ (sa.take (sa.length - z.1)).map (·.2.1)) ∧ IxG z.2 y t' i' S2 (fun _ => []) []) (fun z => sa.length - z.1) (0, s3) (by kernel_rfl) rfl ⟨Nat.zero_le _, _, I3, B3, fun id => by rw [Nat.sub_zero, List.take_length]; exact setA_ids sa (fun _ => []) id, J3⟩ fun ⟨k, sk⟩ ⟨hk, A, I, hB, hids, J⟩ => ?_
  simp only at hk I hB hids J ⊢
  have ax := I.alive
  have ay := J.alive
  by_cases hlt : k < sa.length
  · have e3 : decide ((k : Int) < (sa.length : Int)) = true := decide_eq_true (by omega)
    have w1 : IntKind.i64.wrap ((k : Int) + 1) = ((k + 1 : Nat) : Int) := by rw [IntWalk.i64_in _ (by omega)]; rfl
    have w2 : IntKind.i64.wrap ((sa.length : Int) - 1) = ((sa.length - 1 : Nat) : Int) := by rw [IntWalk.i64_in _ (by omega)]; omega
    have w3 : IntKind.i64.wrap (((sa.length - 1 : Nat) : Int) - (k : Int)) = ((sa.length - 1 - k : Nat) : Int) := by rw [IntWalk.i64_in _ (by omega)]; omega
    obtain ⟨⟨d, id, tx, us⟩, gw⟩ : ∃ w, sa[sa.length - 1 - k]? = some w := ⟨_, List.getElem?_eq_getElem (by omega)⟩
    have x1 := step_at gw
    simp only [fr, ↓RP, RS, Int.reduceBEq, Int.reduceBNe, Int.reduceLT, Int.reduceLE, Int.reduceAdd, Int.reduceSub, ↓reduceIte, Nat.reduceAdd, Nat.reduceMul, Nat.reduceSub, Nat.reduceLT, Nat.reduceLeDiff, Nat.reduceEqDiff, decide_true, decide_false, fieldAddrF, undE, tupE, W5, List.length_map, e3, w2, w3, x1, ld9]
    refine CallK_use' (remove17 I id (hB id)) fun v0 s4 ⟨q1, I4, kp4⟩ => ?_
    subst q1
    simp only [↓RP, RS, Int.reduceBEq, Int.reduceBNe, Int.reduceLT, Int.reduceLE, Int.reduceAdd, Int.reduceSub, ↓reduceIte, Nat.reduceAdd, Nat.reduceMul, Nat.reduceSub, Nat.reduceLT, Nat.reduceLeDiff, Nat.reduceEqDiff, decide_true, decide_false, fieldAddrF, undE, tupE, W5, w1]
    refine seqK_n ⟨(k + 1, s4), ⟨hlt, _, I4, hB.upd (by simp), fun id' => ?_, J.keep kp4 d32⟩, by simp only; omega, by kernel_rfl, rfl⟩
    unfold updA
    by_cases he : id' = id
    · rw [if_pos he]; exact .inl rfl
    · rw [if_neg he]
      rcases hids id' with g | g
      · exact .inl g
      · right
        rw [show sa.length - k = (sa.length - 1 - k) + 1 by omega, List.take_add_one, gw, List.map_append] at g
        rcases List.mem_append.1 g with g | g
        · rw [show sa.length - (k + 1) = sa.length - 1 - k by omega]; exact g
        · simp at g; exact (he g).elim
  · have e3 : decide ((k : Int) < (sa.length : Int)) = false := decide_eq_false (by omega)
    have hA0 : A = fun _ => [] := funext fun id => by
      rcases hids id with g | g
      · exact g
      · rw [show sa.length - k = 0 by omega] at g; simp at g
    subst hA0
    simp only [fr, ↓RP, RS, Int.reduceBEq, Int.reduceBNe, Int.reduceLT, Int.reduceLE, Int.reduceAdd, Int.reduceSub, ↓reduceIte, Nat.reduceAdd, Nat.reduceMul, Nat.reduceSub, Nat.reduceLT, Nat.reduceLeDiff, Nat.reduceEqDiff, decide_true, decide_false, fieldAddrF, undE, tupE, W5, List.length_map, e3]
    refine CallK_use' (set22 I hB0 sb hfb) fun v0 s5 ⟨q1, S5, L5, I5, B5, hL5, kp5, hS5⟩ => ?_
    subst q1
    have J5 := J.keep kp5 d32
    have d52 : ∀ o, S5 o → ¬ S2 o := fun o h1 h2 => by
      rcases hS5 o h1 with g | g
      · exact d32 o h2 g
      · have := J.lt h2; omega
    simp only [↓RP, RS, Int.reduceBEq, Int.reduceBNe, Int.reduceLT, Int.reduceLE, Int.reduceAdd, Int.reduceSub, ↓reduceIte, Nat.reduceAdd, Nat.reduceMul, Nat.reduceSub, Nat.reduceLT, Nat.reduceLeDiff, Nat.reduceEqDiff, decide_true, decide_false, fieldAddrF, undE, tupE, W5]
    refine CallK_use' (set22 J5 hB0 sb hfb) fun v0 s6 ⟨q1, S6, L6, J6, B6, hL6, kp6, hS6⟩ => ?_
    subst q1
    have I6 := I5.keep kp6 d52
    simp only [List.length_nil, Nat.zero_add] at hL6
    have := hfb.1
    simp only [↓RP, RS, Int.reduceBEq, Int.reduceBNe, Int.reduceLT, Int.reduceLE, Int.reduceAdd, Int.reduceSub, ↓reduceIte, Nat.reduceAdd, Nat.reduceMul, Nat.reduceSub, Nat.reduceLT, Nat.reduceLeDiff, Nat.reduceEqDiff, decide_true, decide_false, fieldAddrF, undE, tupE, W5]
    refine CallK_use' (find19 I6 (by omega) ws (.val ws) (by omega)) fun v1 s7 ⟨l1, r1, g1, kp7, n7⟩ => ?_
    have J7 := J6.keep kp7 (fun _ _ h => h)
    simp only [↓RP, RS, Int.reduceBEq, Int.reduceBNe, Int.reduceLT, Int.reduceLE, Int.reduceAdd, Int.reduceSub, ↓reduceIte, Nat.reduceAdd, Nat.reduceMul, Nat.reduceSub, Nat.reduceLT, Nat.reduceLeDiff, Nat.reduceEqDiff, decide_true, decide_false, fieldAddrF, undE, tupE, W5]
    refine CallK_use' (find19 J7 (by omega) ws (.val ws) (by omega)) fun v2 s8 ⟨l2, r2, g2, kp8, n8⟩ => ?_
    have e12 := g1.eq g2
    subst e12
    simp only [↓RP, RS, Int.reduceBEq, Int.reduceBNe, Int.reduceLT, Int.reduceLE, Int.reduceAdd, Int.reduceSub, ↓reduceIte, Nat.reduceAdd, Nat.reduceMul, Nat.reduceSub, Nat.reduceLT, Nat.reduceLeDiff, Nat.reduceEqDiff, decide_true, decide_false, fieldAddrF, undE, tupE, W5]
    refine CallK_use' (same10 (r1.keep kp8 (fun _ _ _ _ h => h)) r2 ?_) fun v0 s9 ⟨q1, q2⟩ => ?_
    · have := FoundOk.len I6 g1; omega
    subst q1
    have es : decide (l1 = l1) = true := decide_eq_true rfl
    simp only [es, ↓RP, RS, Int.reduceBEq, Int.reduceBNe, Int.reduceLT, Int.reduceLE, Int.reduceAdd, Int.reduceSub, ↓reduceIte, Nat.reduceAdd, Nat.reduceMul, Nat.reduceSub, Nat.reduceLT, Nat.reduceLeDiff, Nat.reduceEqDiff, decide_true, decide_false, fieldAddrF, undE, tupE, W5]
    exact hK.ret (by rfl) rfl
end Go.Proofs.Ytjidelngljpbdaa.Am
