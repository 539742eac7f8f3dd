/- The law of apartness. -/
import Derived.Test.YtadddaafajennaaNs
set_option linter.unusedSimpArgs false
set_option linter.unusedVariables false
set_option maxRecDepth 10000
set_option maxHeartbeats 8000000
namespace Go.Proofs.Ytadddaafajennaa.Am
open Go Go.Proofs

theorem build_i5 {σ : List Ob} {s : List V} {x : Operand} {n : Nat} (h : get s x = .d (.int .i64 n)) : buildSliceF Try.prog 55 1 σ s [(0, x)] = some (.sl σ.length 0 1, σ ++ [.arr 1 false [iD n]]) := by
  simp only [buildSliceF, W5, inOrder, toDs, toD, h, flatOk, D.csz, D.cells, List.all_cons, List.all_nil, one1, beq_self_eq_true, if_true, Option.map_some, List.length_cons, List.length_nil]
  rfl
theorem build_b5 {σ : List Ob} {s : List V} {x : Operand} {n : Bool} (h : get s x = .d (.bool n)) : buildSliceF Try.prog 60 1 σ s [(0, x)] = some (.sl σ.length 0 1, σ ++ [.arr 1 false [bD n]]) := by
  simp only [buildSliceF, W5, inOrder, toDs, toD, h, flatOk, D.csz, D.cells, List.all_cons, List.all_nil, one1, beq_self_eq_true, if_true, Option.map_some, List.length_cons, List.length_nil]
  rfl

theorem apart5 (steps : List D) (e : D) (hs : ∀ e ∈ steps, StepA e) (hB : steps.length ≤ 1048576) (he : StepA e) : callA Try.prog 5 [.d (.lst 38 steps), .d e] [] fun r _ => r = .d (.bool true) := by
  obtain ⟨cs, d, f, t, a, m, fm, tm, ents, lk, rfl, ok⟩ := he
  refine callA_le (ys := [.d (.lst 38 steps), .agg (cs.map .d)]) ⟨_, _, rfl, VLe.refl _, _, _, rfl, VLe.agg' cs, rfl⟩ ?_
  refine w5.go fun K hK => ?_
  simp only [e5, c5, p5, Try.f5, codeOf, comp, cop, cstp, copAt, planFor, List.find?, Nat.reduceBEq, ↓RP, RS, Int.reduceBEq, Int.reduceBNe, Int.reduceLT, Int.reduceLE, Int.reduceAdd, Int.reduceSub, ↓reduceIte, Nat.reduceAdd, Nat.reduceMul, Nat.reduceSub, Nat.reduceLT, Nat.reduceLeDiff, Nat.reduceEqDiff, decide_true, decide_false, fieldAddrF, undE, tupE, W5, boxE, cellsV]
  refine CallK_use' (small8 _) fun v σ' ⟨q1, q2⟩ => ?_
  subst q1; subst q2
  simp only [↓RP, RS, Int.reduceBEq, Int.reduceBNe, Int.reduceLT, Int.reduceLE, Int.reduceAdd, Int.reduceSub, ↓reduceIte, Nat.reduceAdd, Nat.reduceMul, Nat.reduceSub, Nat.reduceLT, Nat.reduceLeDiff, Nat.reduceEqDiff, decide_true, decide_false, fieldAddrF, undE, tupE, W5]
  refine CallK_use' (new9 5 _) fun v σ' ⟨L, R, Q, role, q1, h, k1⟩ => ?_
  subst q1
  have hm5 : manyOf 5 = 5 := rfl
  rw [hm5] at h
  simp only [List.length_cons, List.length_nil, Nat.zero_add, Nat.reduceAdd] at h ⊢
  obtain ⟨g0, r0⟩ := k1.get (o := 0) (x := .box (cs.map .d)) rfl rfl
  have a2 := alive_of h.hx (by simp)
  simp only [↓RP, RS, Int.reduceBEq, Int.reduceBNe, Int.reduceLT, Int.reduceLE, Int.reduceAdd, Int.reduceSub, ↓reduceIte, Nat.reduceAdd, Nat.reduceMul, Nat.reduceSub, Nat.reduceLT, Nat.reduceLeDiff, Nat.reduceEqDiff, decide_true, decide_false, fieldAddrF, undE, tupE, W5]
  refine CallK_use' (few10 steps hs hB σ') fun v s ⟨q1, b, q2⟩ => ?_
  subst q1; subst q2
  cases b with
  | false =>
    simp only [↓RP, RS, Int.reduceBEq, Int.reduceBNe, Int.reduceLT, Int.reduceLE, Int.reduceAdd, Int.reduceSub, ↓reduceIte, Nat.reduceAdd, Nat.reduceMul, Nat.reduceSub, Nat.reduceLT, Nat.reduceLeDiff, Nat.reduceEqDiff, decide_true, decide_false, fieldAddrF, undE, tupE, W5, a2]
    exact hK.ret (by rfl) (by rfl)
  | true =>
  have l14 := fun (τ : List Ob) (g : τ[0]? = some (.box (cs.map .d))) => load_box (P := Try.prog) (t := 33) (k := 14) g (d_get ok.ents) (by simp only [W5]) (by simp only [W5])
  have a0 := fun (τ : List Ob) (g : τ[0]? = some (.box (cs.map .d))) => alive_of g (by simp)
  by_cases c1 : 3 < (ents.length : Int)
  · have e4 : decide (3 < (ents.length : Int)) = true := by simpa using c1
    simp only [↓RP, RS, Int.reduceBEq, Int.reduceBNe, Int.reduceLT, Int.reduceLE, Int.reduceAdd, Int.reduceSub, ↓reduceIte, Nat.reduceAdd, Nat.reduceMul, Nat.reduceSub, Nat.reduceLT, Nat.reduceLeDiff, Nat.reduceEqDiff, decide_true, decide_false, fieldAddrF, undE, tupE, W5, a2, a0 _ g0, l14 _ g0, e4]
    exact hK.ret (by rfl) (by rfl)
  have e4 : decide (3 < (ents.length : Int)) = false := by simpa using c1
  simp only [↓RP, RS, Int.reduceBEq, Int.reduceBNe, Int.reduceLT, Int.reduceLE, Int.reduceAdd, Int.reduceSub, ↓reduceIte, Nat.reduceAdd, Nat.reduceMul, Nat.reduceSub, Nat.reduceLT, Nat.reduceLeDiff, Nat.reduceEqDiff, decide_true, decide_false, fieldAddrF, undE, tupE, W5, a2, a0 _ g0, l14 _ g0, e4]
  refine Loop_k [0, 3, 5, 6, 7] (fun x : Nat × List Ob => fr 0 182 [(0, .d (.lst 38 steps)), (3, .ptr 0 0 0), (5, .d (.bool true)), (6, .ptr 2 0 0), (7, .d (.int .i64 x.1))]) (fun x => x.2) (fun x => x.1 ≤ steps.length ∧ x.2[0]? = some (.box (cs.map .d)) ∧ ∃ A Q role, NetAt x.2 2 5 A L R Q role ∧ role 0 = .other) (fun x => steps.length - x.1) (0, s) (by kernel_rfl) rfl ⟨Nat.zero_le _, g0, _, _, _, h, r0⟩ fun ⟨k, sk⟩ ⟨g1, g2, A, Q1, role1, hN, hr⟩ => ?_
  simp only at g1 g2 hN ⊢
  have a3 := alive_of hN.hx (by simp)
  by_cases hlt : k < steps.length
  · have e3 : decide ((k : Int) < (steps.length : Int)) = true := by simpa using hlt
    obtain ⟨cs', d', f', t', a', m', fm', tm', ents', lk', he', ok'⟩ := hs _ (List.getElem_mem hlt)
    have x1 : ∀ σ, indexAddrF Try.prog 22 σ (.d (.lst 38 steps)) (.d (.int .i64 (k : Int))) = some (.ipt cs') := fun σ => index_lst (P := Try.prog) (t := 22) (e := 44) (by simp only [W5]) (by simp only [W5]) (by rw [List.getElem?_eq_getElem hlt, he']) ok'.len
    have x2 : ∀ σ, loadF Try.prog 44 σ (.ipt cs') = some (.d (.agg cs')) := fun σ => by
      simp only [loadF, takeD, W5, if_true, ok'.len, Nat.le_refl, Nat.reduceLeDiff, Nat.reduceLT, and_self]
      rw [List.take_of_length_le (by rw [ok'.len]; omega)]
    have w1 : IntKind.i64.wrap ((k : Int) + 1) = ((k + 1 : Nat) : Int) := by rw [IntWalk.i64_in _ (by omega)]; rfl
    simp only [fr, ↓RP, RS, Int.reduceBEq, Int.reduceBNe, Int.reduceLT, Int.reduceLE, Int.reduceAdd, Int.reduceSub, ↓reduceIte, Nat.reduceAdd, Nat.reduceMul, Nat.reduceSub, Nat.reduceLT, Nat.reduceLeDiff, Nat.reduceEqDiff, decide_true, decide_false, fieldAddrF, undE, tupE, W5, e3, x1, x2]
    refine CallK_use' (callA_le (ys := [.ptr 2 0 0, .agg (cs'.map .d)]) ⟨_, _, rfl, VLe.refl _, _, _, rfl, VLe.agg' cs', rfl⟩ (do32 hN ok')) fun v s1 ⟨Q2, role2, n1, n2⟩ => ?_
    obtain ⟨g3, r3⟩ := n2.get g2 hr
    simp only [↓RP, RS, Int.reduceBEq, Int.reduceBNe, Int.reduceLT, Int.reduceLE, Int.reduceAdd, Int.reduceSub, ↓reduceIte, Nat.reduceAdd, Nat.reduceMul, Nat.reduceSub, Nat.reduceLT, Nat.reduceLeDiff, Nat.reduceEqDiff, decide_true, decide_false, fieldAddrF, undE, tupE, W5, w1]
    exact seqK_n ⟨(k + 1, s1), ⟨by omega, g3, _, _, _, n1, r3⟩, by omega, by kernel_rfl, rfl⟩
  have e3 : decide ((k : Int) < (steps.length : Int)) = false := by simpa using hlt
  simp only [fr, ↓RP, RS, Int.reduceBEq, Int.reduceBNe, Int.reduceLT, Int.reduceLE, Int.reduceAdd, Int.reduceSub, ↓reduceIte, Nat.reduceAdd, Nat.reduceMul, Nat.reduceSub, Nat.reduceLT, Nat.reduceLeDiff, Nat.reduceEqDiff, decide_true, decide_false, fieldAddrF, undE, tupE, W5, e3]
  refine CallK_use' (total28 hN) fun v s1 ⟨q1, q2⟩ => ?_
  subst q1; subst q2
  simp only [↓RP, RS, Int.reduceBEq, Int.reduceBNe, Int.reduceLT, Int.reduceLE, Int.reduceAdd, Int.reduceSub, ↓reduceIte, Nat.reduceAdd, Nat.reduceMul, Nat.reduceSub, Nat.reduceLT, Nat.reduceLeDiff, Nat.reduceEqDiff, decide_true, decide_false, fieldAddrF, undE, tupE, W5]
  have hst : Ap L R A A Q1 role1 cs s1 none none 0 := ⟨hN, g2, hr, rfl, rfl, (fun p e => by cases e), (fun p e => by cases e), (fun p e => by cases e)⟩
  clear h k1 g0 r0 a2
  refine Loop_k [3, 5, 6, 8, 9, 10, 11] (fun x : Nat × List Ob × Option Nat × Option Nat => fr 0 182 [(3, .ptr 0 0 0), (5, .d (.bool true)), (6, .ptr 2 0 0), (8, cellQ x.2.2.1 x.1), (9, cellQ x.2.2.2 x.1), (10, .d (.int .i64 (totLen A 5 : Nat))), (11, .d (.int .i64 x.1))]) (fun x => x.2.1) (fun x => x.1 ≤ 25 ∧ Ap L R A A Q1 role1 cs x.2.1 x.2.2.1 x.2.2.2 x.1) (fun x => 25 - x.1) (0, s1, none, none) (by kernel_rfl) rfl ⟨by simp, hst⟩ fun ⟨k2, sk, o1, o2⟩ ⟨g1, hA⟩ => ?_
  simp only at g1 hA ⊢
  by_cases hlt : k2 < 25
  · have e3 : decide ((k2 : Int) < 25) = true := by simp; omega
    have w1 : IntKind.i64.wrap ((k2 : Int) + 1) = ((k2 + 1 : Nat) : Int) := by rw [IntWalk.i64_in _ (by omega)]; rfl
    have dv := fun (P : Program) (t : TypeId) (σ : List Ob) => bin_quo5 (P := P) (t := t) (σ := σ) k2 (by omega)
    have dm := fun (P : Program) (t : TypeId) (σ : List Ob) => bin_rem5 (P := P) (t := t) (σ := σ) k2
    have bs := fun (σ : List Ob) (s : List V) => build_i5 (σ := σ) (s := s) (x := .tmp 63) (n := lenK A k2)
    have bt := fun (σ : List Ob) (s : List V) => build_b5 (σ := σ) (s := s) (x := .tmp 72) (n := offK A k2)
    simp only [fr, ↓RP, RS, Int.reduceBEq, Int.reduceBNe, Int.reduceLT, Int.reduceLE, Int.reduceAdd, Int.reduceSub, ↓reduceIte, Nat.reduceAdd, Nat.reduceMul, Nat.reduceSub, Nat.reduceLT, Nat.reduceLeDiff, Nat.reduceEqDiff, decide_true, decide_false, fieldAddrF, undE, tupE, W5, e3, dv, dm]
    refine CallK_use' (size25 hA.net hlt) fun v s2 ⟨q1, q2⟩ => ?_
    subst q1; subst q2
    have hl1 : ((List.range k2).map fun i => iD (lenK A i)).length = k2 := by simp
    have hl2 : ((List.range k2).map fun i => bD (offK A i)).length = k2 := by simp
    obtain ⟨o1', s3, p1, p2, p3, p4⟩ := app_one (d := iD (lenK A k2)) hA.w1 (by simp; omega) (t := 55) (e := 3) (b := 8) (by simp only [W5]) (by simp only [W5]) (by simp only [W5]) (by simp only [W5]) (by simp only [W5]) (by decide)
    rw [hl1] at p1
    obtain ⟨n1, n2, n3, n4, n5, n6⟩ := hA.put1 p2 p3 p4
    simp only [↓RP, RS, Int.reduceBEq, Int.reduceBNe, Int.reduceLT, Int.reduceLE, Int.reduceAdd, Int.reduceSub, ↓reduceIte, Nat.reduceAdd, Nat.reduceMul, Nat.reduceSub, Nat.reduceLT, Nat.reduceLeDiff, Nat.reduceEqDiff, decide_true, decide_false, fieldAddrF, undE, tupE, W5, bs, p1, dv, dm]
    refine CallK_use' (off25 n1 hlt) fun v s4 ⟨q1, q2⟩ => ?_
    subst q1; subst q2
    obtain ⟨o2', s5, u1, u2, u3, u4⟩ := app_one (d := bD (offK A k2)) n4 (by simp; omega) (t := 60) (e := 4) (b := 1) (by simp only [W5]) (by simp only [W5]) (by simp only [W5]) (by simp only [W5]) (by simp only [W5]) (by decide)
    rw [hl2] at u1
    simp only [↓RP, RS, Int.reduceBEq, Int.reduceBNe, Int.reduceLT, Int.reduceLE, Int.reduceAdd, Int.reduceSub, ↓reduceIte, Nat.reduceAdd, Nat.reduceMul, Nat.reduceSub, Nat.reduceLT, Nat.reduceLeDiff, Nat.reduceEqDiff, decide_true, decide_false, fieldAddrF, undE, tupE, W5, bt, u1, w1]
    refine seqK_n ⟨(k2 + 1, s5, o1', o2'), ⟨by omega, ?_⟩, by omega, by kernel_rfl, rfl⟩
    refine ⟨n1.keep u4 fun o e => (hA.o2 o e).1, u4.get n2 fun e => (hA.o2 0 e).2 rfl, hA.r0, n3.keep fun p x e hx => u4.get hx fun e' => n6 p e e', by rw [range_succ_map]; exact u2, n5, fun p e => ?_, fun p e e2 => ?_⟩
    · rcases u3 p e with g | g
      · exact hA.o2 p g
      · exact ⟨fresh_other n1 g, by have := lt_of_get n2; omega⟩
    · rcases u3 p e2 with g | g
      · exact n6 p e g
      · subst e; have := n3.lt; omega
  have e3 : decide ((k2 : Int) < 25) = false := by simp; omega
  simp only [fr, ↓RP, RS, Int.reduceBEq, Int.reduceBNe, Int.reduceLT, Int.reduceLE, Int.reduceAdd, Int.reduceSub, ↓reduceIte, Nat.reduceAdd, Nat.reduceMul, Nat.reduceSub, Nat.reduceLT, Nat.reduceLeDiff, Nat.reduceEqDiff, decide_true, decide_false, fieldAddrF, undE, tupE, W5, e3]
  obtain rfl : k2 = 25 := by omega
  obtain ⟨o1, rfl⟩ : ∃ p, o1 = some p := by
    cases o1 with
    | none => have := hA.w1; simp [ArrL, List.range_succ] at this
    | some p => exact ⟨p, rfl⟩
  obtain ⟨o2, rfl⟩ : ∃ p, o2 = some p := by
    cases o2 with
    | none => have := hA.w2; simp [ArrL, List.range_succ] at this
    | some p => exact ⟨p, rfl⟩
  have g0 := hA.bx
  have l0 := load_box (P := Try.prog) (t := 3) (k := 0) g0 (d_get ok.d0) (by simp only [W5]) (by simp only [W5])
  have l1 := load_box (P := Try.prog) (t := 3) (k := 1) g0 (d_get ok.f1) (by simp only [W5]) (by simp only [W5])
  have l2 := load_box (P := Try.prog) (t := 3) (k := 2) g0 (d_get ok.t2) (by simp only [W5]) (by simp only [W5])
  have c5 : cs[5]? = some (.int .i64 fm) := by have := ok.msg.from_; rw [← ok.m4, List.getElem?_drop] at this; exact this
  have c6 : cs[6]? = some (.int .i64 tm) := by have := ok.msg.to_; rw [← ok.m4, List.getElem?_drop] at this; exact this
  have l5 := load_box (P := Try.prog) (t := 3) (k := 5) g0 (d_get c5) (by simp only [W5]) (by simp only [W5])
  have l6 := load_box (P := Try.prog) (t := 3) (k := 6) g0 (d_get c6) (by simp only [W5]) (by simp only [W5])
  have la := load_all (P := Try.prog) (t := 44) g0 (by simp [ok.len, W5]) (by simp only [W5]) (by simp only [W5]; decide)
  simp only [↓RP, RS, Int.reduceBEq, Int.reduceBNe, Int.reduceLT, Int.reduceLE, Int.reduceAdd, Int.reduceSub, ↓reduceIte, Nat.reduceAdd, Nat.reduceMul, Nat.reduceSub, Nat.reduceLT, Nat.reduceLeDiff, Nat.reduceEqDiff, decide_true, decide_false, fieldAddrF, undE, tupE, W5, cellQ, a0 _ g0, l0, l1, l2]
  refine CallK_use' (pick12 d 8 (by omega) (by omega) sk) fun v s2 ⟨q1, q2⟩ => ?_
  subst q1; subst q2
  have hone := step_one 5 A d f t a m fm tm
  have hdo := do32 hA.net ok
  obtain ⟨mk1, w1⟩ := hA.w1
  obtain ⟨mk2, w2⟩ := hA.w2
  have hr1 := (hA.o1 _ rfl).1
  have hr2 := (hA.o2 _ rfl).1
  have hfew := hA.net.few
  generalize stepL 5 A d f t a m fm tm = A' at hone hdo
  obtain ⟨F, T, eF, eT, hone⟩ : ∃ F T, F = (if pickN d 8 < 3 then fm else f) ∧ T = (if pickN d 8 < 3 then tm else t) ∧ OneL 5 A A' F T := ⟨_, _, rfl, rfl, hone⟩
  have e5 : decide (((pickN d 8 : Nat) : Int) < 3) = decide (pickN d 8 < 3) := by simp; omega
  by_cases c3 : pickN d 8 < 3
  all_goals
    simp only [c3, if_true, if_false, decide_true, decide_false] at eF eT e5
    simp only [↓RP, RS, Int.reduceBEq, Int.reduceBNe, Int.reduceLT, Int.reduceLE, Int.reduceAdd, Int.reduceSub, ↓reduceIte, Nat.reduceAdd, Nat.reduceMul, Nat.reduceSub, Nat.reduceLT, Nat.reduceLeDiff, Nat.reduceEqDiff, decide_true, decide_false, fieldAddrF, undE, tupE, W5, e5, a0 _ g0, l5, l6, la]
    rw [← eF, ← eT]
    refine CallK_use' hdo fun v s3 ⟨Q2, role2, n1, n2⟩ => ?_
    have v1 := (n2.get w1 hr1).1
    have v2 := (n2.get w2 hr2).1
    have hfew' := n1.few
    have hsum := hone.sums
    clear hdo hA g0 l0 l1 l2 l5 l6 la w1 w2 n2
    simp only [↓RP, RS, Int.reduceBEq, Int.reduceBNe, Int.reduceLT, Int.reduceLE, Int.reduceAdd, Int.reduceSub, ↓reduceIte, Nat.reduceAdd, Nat.reduceMul, Nat.reduceSub, Nat.reduceLT, Nat.reduceLeDiff, Nat.reduceEqDiff, decide_true, decide_false, fieldAddrF, undE, tupE, W5]
    refine Loop_k [5, 6, 8, 9, 10, 12, 13, 14, 15] (fun k : Nat => fr 0 182 [(5, .d (.bool true)), (6, .ptr 2 0 0), (8, .sl o1 0 25), (9, .sl o2 0 25), (10, .d (.int .i64 (totLen A 5 : Nat))), (12, .d (.int .i64 F)), (13, .d (.int .i64 T)), (14, .d (.int .i64 ((sumTo (lenK A') k : Nat) - (sumTo (lenK A) k : Nat) : Int))), (15, .d (.int .i64 k))]) (fun _ => s3) (fun k => k ≤ 25) (fun k => 25 - k) 0 (by kernel_rfl) rfl (by omega) fun k hk => ?_
    have b1 := sumTo_le' hfew k hk
    have b2 := sumTo_le' hfew' k hk
    by_cases hlt : k < 25
    · have e3 : decide ((k : Int) < 25) = true := by simp; omega
      have w1 : IntKind.i64.wrap ((k : Int) + 1) = ((k + 1 : Nat) : Int) := by rw [IntWalk.i64_in _ (by omega)]; rfl
      have dv := fun (P : Program) (t : TypeId) (σ : List Ob) => bin_quo5 (P := P) (t := t) (σ := σ) k (by omega)
      have dm := fun (P : Program) (t : TypeId) (σ : List Ob) => bin_rem5 (P := P) (t := t) (σ := σ) k
      have i1 := index_arr (P := Try.prog) (t := 55) (e := 3) (kd := .i64) (off := 0) (len := 25) (j := k) v1 (by simp only [W5]) (by simp only [W5]) (by decide) hlt
      have i2 := index_arr (P := Try.prog) (t := 60) (e := 4) (kd := .i64) (off := 0) (len := 25) (j := k) v2 (by simp only [W5]) (by simp only [W5]) (by decide) hlt
      rw [Nat.zero_add] at i1 i2
      have j1 := load_arr1 (P := Try.prog) (t := 3) (i := k) (d := iD (lenK A k)) v1 (by simp [hlt]) rfl (by simp only [W5]) (by simp only [W5])
      have j2 := load_arr1 (P := Try.prog) (t := 4) (i := k) (d := bD (offK A k)) v2 (by simp [hlt]) rfl (by simp only [W5]) (by simp only [W5])
      simp only [iD] at j1
      simp only [bD] at j2
      have en : ∀ n : Int, (n != n) = false := by simp
      have eb : ∀ b : Bool, (b == b) = true := by simp
      have b3 := sumTo_le' hfew (k + 1) (by omega)
      have b4 := sumTo_le' hfew' (k + 1) (by omega)
      have b5 : sumTo (lenK A) (k + 1) = sumTo (lenK A) k + lenK A k := rfl
      have b6 : sumTo (lenK A') (k + 1) = sumTo (lenK A') k + lenK A' k := rfl
      have w2 : IntKind.i64.wrap (((sumTo (lenK A') k : Nat) - (sumTo (lenK A) k : Nat) : Int) + (lenK A' k : Nat)) = ((sumTo (lenK A') k : Nat) - (sumTo (lenK A) k : Nat) : Int) + (lenK A' k : Nat) := IntWalk.i64_in _ (by omega)
      have w3 : IntKind.i64.wrap (((sumTo (lenK A') k : Nat) - (sumTo (lenK A) k : Nat) : Int) + (lenK A' k : Nat) - (lenK A k : Nat)) = ((sumTo (lenK A') (k + 1) : Nat) - (sumTo (lenK A) (k + 1) : Nat) : Int) := by rw [IntWalk.i64_in _ (by omega)]; omega
      have cas : ((((k / 5 : Nat) : Int) == F) = true ∧ (((k % 5 : Nat) : Int) == T) = true) ∨ ((((k / 5 : Nat) : Int) == F) = true ∧ (((k % 5 : Nat) : Int) == T) = false ∧ lenK A' k = lenK A k ∧ offK A' k = offK A k) ∨ ((((k / 5 : Nat) : Int) == F) = false ∧ lenK A' k = lenK A k ∧ offK A' k = offK A k) := by
        by_cases f1 : ((k / 5 : Nat) : Int) = F
        · by_cases f2 : ((k % 5 : Nat) : Int) = T
          · exact .inl ⟨by simpa using f1, by simpa using f2⟩
          · exact .inr (.inl ⟨by simpa using f1, by simpa using f2, hone.other fun q => f2 q.2⟩)
        · exact .inr (.inr ⟨by simpa using f1, hone.other fun q => f1 q.1⟩)
      have dg : ((((k / 5 : Nat) : Int) == ((k % 5 : Nat) : Int)) = true ∧ (((lenK A k : Nat) : Int) != 0) = false ∧ offK A k = false) ∨ (((k / 5 : Nat) : Int) == ((k % 5 : Nat) : Int)) = false := by
        by_cases g : k / 5 = k % 5
        · exact .inl ⟨by simp [g], by simp [lenK, g], by simp [offK, g]⟩
        · exact .inr (by simp; omega)
      rcases dg with ⟨e6, z1, z2⟩ | e6 <;> rcases cas with ⟨f1, f2⟩ | ⟨f1, f2, f3, f4⟩ | ⟨f1, f3, f4⟩
      · simp only [fr, ↓RP, RS, Int.reduceBEq, Int.reduceBNe, Int.reduceLT, Int.reduceLE, Int.reduceAdd, Int.reduceSub, ↓reduceIte, Nat.reduceAdd, Nat.reduceMul, Nat.reduceSub, Nat.reduceLT, Nat.reduceLeDiff, Nat.reduceEqDiff, decide_true, decide_false, fieldAddrF, undE, tupE, W5, e3, dv, dm, f1, f2, e6, z1, z2, i1, i2, j1, j2]
        refine CallK_use (size25 n1 hlt) fun v s4 ⟨q1, q2⟩ => ⟨by subst q1; subst q2; simp only [chkC, wantC, ↓RP, RS, Int.reduceBEq, Int.reduceBNe, Int.reduceLT, Int.reduceLE, Int.reduceAdd, Int.reduceSub, ↓reduceIte, Nat.reduceAdd, Nat.reduceMul, Nat.reduceSub, Nat.reduceLT, Nat.reduceLeDiff, Nat.reduceEqDiff, decide_true, decide_false, fieldAddrF, undE, tupE, W5, i1, j1], ?_⟩
        subst q1; subst q2
        simp only [↓RP, RS, Int.reduceBEq, Int.reduceBNe, Int.reduceLT, Int.reduceLE, Int.reduceAdd, Int.reduceSub, ↓reduceIte, Nat.reduceAdd, Nat.reduceMul, Nat.reduceSub, Nat.reduceLT, Nat.reduceLeDiff, Nat.reduceEqDiff, decide_true, decide_false, fieldAddrF, undE, tupE, W5, i1, j1, w1, w2, w3]
        exact seqK_n ⟨k + 1, by omega, by omega, by kernel_rfl, rfl⟩
      · simp only [fr, ↓RP, RS, Int.reduceBEq, Int.reduceBNe, Int.reduceLT, Int.reduceLE, Int.reduceAdd, Int.reduceSub, ↓reduceIte, Nat.reduceAdd, Nat.reduceMul, Nat.reduceSub, Nat.reduceLT, Nat.reduceLeDiff, Nat.reduceEqDiff, decide_true, decide_false, fieldAddrF, undE, tupE, W5, e3, dv, dm, f1, f2, i1, i2, j1, j2]
        refine CallK_use (size25 n1 hlt) fun v s4 ⟨q1, q2⟩ => ⟨by subst q1; subst q2; simp only [chkC, wantC, ↓RP, RS, Int.reduceBEq, Int.reduceBNe, Int.reduceLT, Int.reduceLE, Int.reduceAdd, Int.reduceSub, ↓reduceIte, Nat.reduceAdd, Nat.reduceMul, Nat.reduceSub, Nat.reduceLT, Nat.reduceLeDiff, Nat.reduceEqDiff, decide_true, decide_false, fieldAddrF, undE, tupE, W5, i1, j1], ?_⟩
        subst q1; subst q2
        simp only [f3, ↓RP, RS, Int.reduceBEq, Int.reduceBNe, Int.reduceLT, Int.reduceLE, Int.reduceAdd, Int.reduceSub, ↓reduceIte, Nat.reduceAdd, Nat.reduceMul, Nat.reduceSub, Nat.reduceLT, Nat.reduceLeDiff, Nat.reduceEqDiff, decide_true, decide_false, fieldAddrF, undE, tupE, W5, e3, dv, dm, i1, i2, j1, j2, en, eb]
        refine CallK_use (off25 n1 hlt) fun v s5 ⟨q1, q2⟩ => ⟨by subst q1; subst q2; simp only [chkC, wantC, ↓RP, RS, Int.reduceBEq, Int.reduceBNe, Int.reduceLT, Int.reduceLE, Int.reduceAdd, Int.reduceSub, ↓reduceIte, Nat.reduceAdd, Nat.reduceMul, Nat.reduceSub, Nat.reduceLT, Nat.reduceLeDiff, Nat.reduceEqDiff, decide_true, decide_false, fieldAddrF, undE, tupE, W5, i2, j2], ?_⟩
        subst q1; subst q2
        simp only [f4, ↓RP, RS, Int.reduceBEq, Int.reduceBNe, Int.reduceLT, Int.reduceLE, Int.reduceAdd, Int.reduceSub, ↓reduceIte, Nat.reduceAdd, Nat.reduceMul, Nat.reduceSub, Nat.reduceLT, Nat.reduceLeDiff, Nat.reduceEqDiff, decide_true, decide_false, fieldAddrF, undE, tupE, W5, e3, dv, dm, i1, i2, j1, j2, en, eb, e6, z1, z2]
        refine CallK_use (size25 n1 hlt) fun v s4 ⟨q1, q2⟩ => ⟨by subst q1; subst q2; simp only [chkC, wantC, ↓RP, RS, Int.reduceBEq, Int.reduceBNe, Int.reduceLT, Int.reduceLE, Int.reduceAdd, Int.reduceSub, ↓reduceIte, Nat.reduceAdd, Nat.reduceMul, Nat.reduceSub, Nat.reduceLT, Nat.reduceLeDiff, Nat.reduceEqDiff, decide_true, decide_false, fieldAddrF, undE, tupE, W5, i1, j1], ?_⟩
        subst q1; subst q2
        simp only [↓RP, RS, Int.reduceBEq, Int.reduceBNe, Int.reduceLT, Int.reduceLE, Int.reduceAdd, Int.reduceSub, ↓reduceIte, Nat.reduceAdd, Nat.reduceMul, Nat.reduceSub, Nat.reduceLT, Nat.reduceLeDiff, Nat.reduceEqDiff, decide_true, decide_false, fieldAddrF, undE, tupE, W5, i1, j1, w1, w2, w3]
        exact seqK_n ⟨k + 1, by omega, by omega, by kernel_rfl, rfl⟩
      · simp only [fr, ↓RP, RS, Int.reduceBEq, Int.reduceBNe, Int.reduceLT, Int.reduceLE, Int.reduceAdd, Int.reduceSub, ↓reduceIte, Nat.reduceAdd, Nat.reduceMul, Nat.reduceSub, Nat.reduceLT, Nat.reduceLeDiff, Nat.reduceEqDiff, decide_true, decide_false, fieldAddrF, undE, tupE, W5, e3, dv, dm, f1, i1, i2, j1, j2]
        refine CallK_use (size25 n1 hlt) fun v s4 ⟨q1, q2⟩ => ⟨by subst q1; subst q2; simp only [chkC, wantC, ↓RP, RS, Int.reduceBEq, Int.reduceBNe, Int.reduceLT, Int.reduceLE, Int.reduceAdd, Int.reduceSub, ↓reduceIte, Nat.reduceAdd, Nat.reduceMul, Nat.reduceSub, Nat.reduceLT, Nat.reduceLeDiff, Nat.reduceEqDiff, decide_true, decide_false, fieldAddrF, undE, tupE, W5, i1, j1], ?_⟩
        subst q1; subst q2
        simp only [f3, ↓RP, RS, Int.reduceBEq, Int.reduceBNe, Int.reduceLT, Int.reduceLE, Int.reduceAdd, Int.reduceSub, ↓reduceIte, Nat.reduceAdd, Nat.reduceMul, Nat.reduceSub, Nat.reduceLT, Nat.reduceLeDiff, Nat.reduceEqDiff, decide_true, decide_false, fieldAddrF, undE, tupE, W5, e3, dv, dm, i1, i2, j1, j2, en, eb]
        refine CallK_use (off25 n1 hlt) fun v s5 ⟨q1, q2⟩ => ⟨by subst q1; subst q2; simp only [chkC, wantC, ↓RP, RS, Int.reduceBEq, Int.reduceBNe, Int.reduceLT, Int.reduceLE, Int.reduceAdd, Int.reduceSub, ↓reduceIte, Nat.reduceAdd, Nat.reduceMul, Nat.reduceSub, Nat.reduceLT, Nat.reduceLeDiff, Nat.reduceEqDiff, decide_true, decide_false, fieldAddrF, undE, tupE, W5, i2, j2], ?_⟩
        subst q1; subst q2
        simp only [f4, ↓RP, RS, Int.reduceBEq, Int.reduceBNe, Int.reduceLT, Int.reduceLE, Int.reduceAdd, Int.reduceSub, ↓reduceIte, Nat.reduceAdd, Nat.reduceMul, Nat.reduceSub, Nat.reduceLT, Nat.reduceLeDiff, Nat.reduceEqDiff, decide_true, decide_false, fieldAddrF, undE, tupE, W5, e3, dv, dm, i1, i2, j1, j2, en, eb, e6, z1, z2]
        refine CallK_use (size25 n1 hlt) fun v s4 ⟨q1, q2⟩ => ⟨by subst q1; subst q2; simp only [chkC, wantC, ↓RP, RS, Int.reduceBEq, Int.reduceBNe, Int.reduceLT, Int.reduceLE, Int.reduceAdd, Int.reduceSub, ↓reduceIte, Nat.reduceAdd, Nat.reduceMul, Nat.reduceSub, Nat.reduceLT, Nat.reduceLeDiff, Nat.reduceEqDiff, decide_true, decide_false, fieldAddrF, undE, tupE, W5, i1, j1], ?_⟩
        subst q1; subst q2
        simp only [↓RP, RS, Int.reduceBEq, Int.reduceBNe, Int.reduceLT, Int.reduceLE, Int.reduceAdd, Int.reduceSub, ↓reduceIte, Nat.reduceAdd, Nat.reduceMul, Nat.reduceSub, Nat.reduceLT, Nat.reduceLeDiff, Nat.reduceEqDiff, decide_true, decide_false, fieldAddrF, undE, tupE, W5, i1, j1, w1, w2, w3]
        exact seqK_n ⟨k + 1, by omega, by omega, by kernel_rfl, rfl⟩
      · simp only [fr, ↓RP, RS, Int.reduceBEq, Int.reduceBNe, Int.reduceLT, Int.reduceLE, Int.reduceAdd, Int.reduceSub, ↓reduceIte, Nat.reduceAdd, Nat.reduceMul, Nat.reduceSub, Nat.reduceLT, Nat.reduceLeDiff, Nat.reduceEqDiff, decide_true, decide_false, fieldAddrF, undE, tupE, W5, e3, dv, dm, f1, f2, e6, i1, i2, j1, j2]
        refine CallK_use (size25 n1 hlt) fun v s4 ⟨q1, q2⟩ => ⟨by subst q1; subst q2; simp only [chkC, wantC, ↓RP, RS, Int.reduceBEq, Int.reduceBNe, Int.reduceLT, Int.reduceLE, Int.reduceAdd, Int.reduceSub, ↓reduceIte, Nat.reduceAdd, Nat.reduceMul, Nat.reduceSub, Nat.reduceLT, Nat.reduceLeDiff, Nat.reduceEqDiff, decide_true, decide_false, fieldAddrF, undE, tupE, W5, i1, j1], ?_⟩
        subst q1; subst q2
        simp only [↓RP, RS, Int.reduceBEq, Int.reduceBNe, Int.reduceLT, Int.reduceLE, Int.reduceAdd, Int.reduceSub, ↓reduceIte, Nat.reduceAdd, Nat.reduceMul, Nat.reduceSub, Nat.reduceLT, Nat.reduceLeDiff, Nat.reduceEqDiff, decide_true, decide_false, fieldAddrF, undE, tupE, W5, i1, j1, w1, w2, w3]
        exact seqK_n ⟨k + 1, by omega, by omega, by kernel_rfl, rfl⟩
      · simp only [fr, ↓RP, RS, Int.reduceBEq, Int.reduceBNe, Int.reduceLT, Int.reduceLE, Int.reduceAdd, Int.reduceSub, ↓reduceIte, Nat.reduceAdd, Nat.reduceMul, Nat.reduceSub, Nat.reduceLT, Nat.reduceLeDiff, Nat.reduceEqDiff, decide_true, decide_false, fieldAddrF, undE, tupE, W5, e3, dv, dm, f1, f2, i1, i2, j1, j2]
        refine CallK_use (size25 n1 hlt) fun v s4 ⟨q1, q2⟩ => ⟨by subst q1; subst q2; simp only [chkC, wantC, ↓RP, RS, Int.reduceBEq, Int.reduceBNe, Int.reduceLT, Int.reduceLE, Int.reduceAdd, Int.reduceSub, ↓reduceIte, Nat.reduceAdd, Nat.reduceMul, Nat.reduceSub, Nat.reduceLT, Nat.reduceLeDiff, Nat.reduceEqDiff, decide_true, decide_false, fieldAddrF, undE, tupE, W5, i1, j1], ?_⟩
        subst q1; subst q2
        simp only [f3, ↓RP, RS, Int.reduceBEq, Int.reduceBNe, Int.reduceLT, Int.reduceLE, Int.reduceAdd, Int.reduceSub, ↓reduceIte, Nat.reduceAdd, Nat.reduceMul, Nat.reduceSub, Nat.reduceLT, Nat.reduceLeDiff, Nat.reduceEqDiff, decide_true, decide_false, fieldAddrF, undE, tupE, W5, e3, dv, dm, i1, i2, j1, j2, en, eb]
        refine CallK_use (off25 n1 hlt) fun v s5 ⟨q1, q2⟩ => ⟨by subst q1; subst q2; simp only [chkC, wantC, ↓RP, RS, Int.reduceBEq, Int.reduceBNe, Int.reduceLT, Int.reduceLE, Int.reduceAdd, Int.reduceSub, ↓reduceIte, Nat.reduceAdd, Nat.reduceMul, Nat.reduceSub, Nat.reduceLT, Nat.reduceLeDiff, Nat.reduceEqDiff, decide_true, decide_false, fieldAddrF, undE, tupE, W5, i2, j2], ?_⟩
        subst q1; subst q2
        simp only [f4, ↓RP, RS, Int.reduceBEq, Int.reduceBNe, Int.reduceLT, Int.reduceLE, Int.reduceAdd, Int.reduceSub, ↓reduceIte, Nat.reduceAdd, Nat.reduceMul, Nat.reduceSub, Nat.reduceLT, Nat.reduceLeDiff, Nat.reduceEqDiff, decide_true, decide_false, fieldAddrF, undE, tupE, W5, e3, dv, dm, i1, i2, j1, j2, en, eb, e6]
        refine CallK_use (size25 n1 hlt) fun v s4 ⟨q1, q2⟩ => ⟨by subst q1; subst q2; simp only [chkC, wantC, ↓RP, RS, Int.reduceBEq, Int.reduceBNe, Int.reduceLT, Int.reduceLE, Int.reduceAdd, Int.reduceSub, ↓reduceIte, Nat.reduceAdd, Nat.reduceMul, Nat.reduceSub, Nat.reduceLT, Nat.reduceLeDiff, Nat.reduceEqDiff, decide_true, decide_false, fieldAddrF, undE, tupE, W5, i1, j1], ?_⟩
        subst q1; subst q2
        simp only [↓RP, RS, Int.reduceBEq, Int.reduceBNe, Int.reduceLT, Int.reduceLE, Int.reduceAdd, Int.reduceSub, ↓reduceIte, Nat.reduceAdd, Nat.reduceMul, Nat.reduceSub, Nat.reduceLT, Nat.reduceLeDiff, Nat.reduceEqDiff, decide_true, decide_false, fieldAddrF, undE, tupE, W5, i1, j1, w1, w2, w3]
        exact seqK_n ⟨k + 1, by omega, by omega, by kernel_rfl, rfl⟩
      · simp only [fr, ↓RP, RS, Int.reduceBEq, Int.reduceBNe, Int.reduceLT, Int.reduceLE, Int.reduceAdd, Int.reduceSub, ↓reduceIte, Nat.reduceAdd, Nat.reduceMul, Nat.reduceSub, Nat.reduceLT, Nat.reduceLeDiff, Nat.reduceEqDiff, decide_true, decide_false, fieldAddrF, undE, tupE, W5, e3, dv, dm, f1, i1, i2, j1, j2]
        refine CallK_use (size25 n1 hlt) fun v s4 ⟨q1, q2⟩ => ⟨by subst q1; subst q2; simp only [chkC, wantC, ↓RP, RS, Int.reduceBEq, Int.reduceBNe, Int.reduceLT, Int.reduceLE, Int.reduceAdd, Int.reduceSub, ↓reduceIte, Nat.reduceAdd, Nat.reduceMul, Nat.reduceSub, Nat.reduceLT, Nat.reduceLeDiff, Nat.reduceEqDiff, decide_true, decide_false, fieldAddrF, undE, tupE, W5, i1, j1], ?_⟩
        subst q1; subst q2
        simp only [f3, ↓RP, RS, Int.reduceBEq, Int.reduceBNe, Int.reduceLT, Int.reduceLE, Int.reduceAdd, Int.reduceSub, ↓reduceIte, Nat.reduceAdd, Nat.reduceMul, Nat.reduceSub, Nat.reduceLT, Nat.reduceLeDiff, Nat.reduceEqDiff, decide_true, decide_false, fieldAddrF, undE, tupE, W5, e3, dv, dm, i1, i2, j1, j2, en, eb]
        refine CallK_use (off25 n1 hlt) fun v s5 ⟨q1, q2⟩ => ⟨by subst q1; subst q2; simp only [chkC, wantC, ↓RP, RS, Int.reduceBEq, Int.reduceBNe, Int.reduceLT, Int.reduceLE, Int.reduceAdd, Int.reduceSub, ↓reduceIte, Nat.reduceAdd, Nat.reduceMul, Nat.reduceSub, Nat.reduceLT, Nat.reduceLeDiff, Nat.reduceEqDiff, decide_true, decide_false, fieldAddrF, undE, tupE, W5, i2, j2], ?_⟩
        subst q1; subst q2
        simp only [f4, ↓RP, RS, Int.reduceBEq, Int.reduceBNe, Int.reduceLT, Int.reduceLE, Int.reduceAdd, Int.reduceSub, ↓reduceIte, Nat.reduceAdd, Nat.reduceMul, Nat.reduceSub, Nat.reduceLT, Nat.reduceLeDiff, Nat.reduceEqDiff, decide_true, decide_false, fieldAddrF, undE, tupE, W5, e3, dv, dm, i1, i2, j1, j2, en, eb, e6]
        refine CallK_use (size25 n1 hlt) fun v s4 ⟨q1, q2⟩ => ⟨by subst q1; subst q2; simp only [chkC, wantC, ↓RP, RS, Int.reduceBEq, Int.reduceBNe, Int.reduceLT, Int.reduceLE, Int.reduceAdd, Int.reduceSub, ↓reduceIte, Nat.reduceAdd, Nat.reduceMul, Nat.reduceSub, Nat.reduceLT, Nat.reduceLeDiff, Nat.reduceEqDiff, decide_true, decide_false, fieldAddrF, undE, tupE, W5, i1, j1], ?_⟩
        subst q1; subst q2
        simp only [↓RP, RS, Int.reduceBEq, Int.reduceBNe, Int.reduceLT, Int.reduceLE, Int.reduceAdd, Int.reduceSub, ↓reduceIte, Nat.reduceAdd, Nat.reduceMul, Nat.reduceSub, Nat.reduceLT, Nat.reduceLeDiff, Nat.reduceEqDiff, decide_true, decide_false, fieldAddrF, undE, tupE, W5, i1, j1, w1, w2, w3]
        exact seqK_n ⟨k + 1, by omega, by omega, by kernel_rfl, rfl⟩
    · have e3 : decide ((k : Int) < 25) = false := by simp; omega
      simp only [fr, ↓RP, RS, Int.reduceBEq, Int.reduceBNe, Int.reduceLT, Int.reduceLE, Int.reduceAdd, Int.reduceSub, ↓reduceIte, Nat.reduceAdd, Nat.reduceMul, Nat.reduceSub, Nat.reduceLT, Nat.reduceLeDiff, Nat.reduceEqDiff, decide_true, decide_false, fieldAddrF, undE, tupE, W5, e3]
      obtain rfl : k = 25 := by omega
      have t1 : totLen A' 5 ≤ 25 * 1024 := by rw [← sum25]; exact sumTo_le 25 fun i hi => hfew' _ _ (by omega) (by omega)
      have w4 : IntKind.i64.wrap (((totLen A 5 : Nat) : Int) + ((sumTo (lenK A') 25 : Nat) - (sumTo (lenK A) 25 : Nat) : Int)) = ((totLen A' 5 : Nat) : Int) := by rw [IntWalk.i64_in _ (by omega)]; omega
      have g1 : decide (-1 ≤ ((sumTo (lenK A') 25 : Nat) - (sumTo (lenK A) 25 : Nat) : Int)) = true := by simp; omega
      have g2 : decide (((sumTo (lenK A') 25 : Nat) - (sumTo (lenK A) 25 : Nat) : Int) ≤ 1) = true := by simp; omega
      have eq : ∀ n : Int, (n == n) = true := by simp
      refine CallK_use' (total28 n1) fun v s4 ⟨q1, q2⟩ => ?_
      subst q1; subst q2
      simp only [↓RP, RS, Int.reduceBEq, Int.reduceBNe, Int.reduceLT, Int.reduceLE, Int.reduceAdd, Int.reduceSub, ↓reduceIte, Nat.reduceAdd, Nat.reduceMul, Nat.reduceSub, Nat.reduceLT, Nat.reduceLeDiff, Nat.reduceEqDiff, decide_true, decide_false, fieldAddrF, undE, tupE, W5, w4, eq, g1, g2]
      exact hK.ret (by rfl) (by rfl)
end Go.Proofs.Ytadddaafajennaa.Am
