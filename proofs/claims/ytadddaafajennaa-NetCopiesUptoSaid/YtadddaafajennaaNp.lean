/- A step of any kind. -/
import Derived.Test.YtadddaafajennaaNm
set_option linter.unusedSimpArgs false
set_option linter.unusedVariables false
set_option maxRecDepth 10000
set_option maxHeartbeats 2000000
namespace Go.Proofs.Ytadddaafajennaa.Am
open Go Go.Proofs

structure StepOk (cs : List D) (d f t a : Int) (m : List D) (fm tm : Int) (ents lk : List D) : Prop where
  len : cs.length = 38
  one : cs.all one1 = true
  d0 : cs[0]? = some (.int .i64 d)
  f1 : cs[1]? = some (.int .i64 f)
  t2 : cs[2]? = some (.int .i64 t)
  a3 : cs[3]? = some (.int .i64 a)
  m4 : cs.drop 4 = m
  msg : MsgOk m fm tm ents lk

/-- What a step does to the links. -/
def stepN (n : Nat) (A : Links) (d f t a : Int) (m : List D) (fm tm : Int) : Links :=
  if pickN d 8 < 3 then (if okS n A fm tm then putS A fm.toNat tm.toNat (.agg m) else A)
  else if pickN d 8 < 5 then (if hasT n A f t a then popS A f.toNat t.toNat a.toNat else A)
  else if pickN d 8 = 5 then (if okW n A f t a then putS A f.toNat t.toNat (msgT n A f t a) else A)
  else (if isL n f t then upd2 A f.toNat t.toNat (decide (pickN d 8 = 6), (A f.toNat t.toNat).2) else A)

theorem do32 {σ : List Ob} {x n : Nat} {A : Links} {L : Nat} {R : Nat → Nat} {Q : Nat → Nat → Option Nat} {role : Nat → Role} (h : NetAt σ x n A L R Q role) {cs : List D} {d f t a : Int} {m : List D} {fm tm : Int} {ents lk : List D} (hs : StepOk cs d f t a m fm tm ents lk) :
    callA Try.prog 32 [.ptr x 0 0, .agg (cs.map .d)] σ (fun r σ' => ∃ Q' role', NetAt σ' x n (stepN n A d f t a m fm tm) L R Q' role' ∧ Kept role role' σ σ') := by
  refine w32.go fun K hK => ?_
  have g2 : (σ ++ [Ob.box (cs.map .d)])[σ.length]? = some (.box (cs.map .d)) := by simp
  have h1 : NetAt (σ ++ [Ob.box (cs.map .d)]) x n A L R Q role := h.app _
  have kp : Kept role role σ (σ ++ [Ob.box (cs.map .d)]) := Kept.app _ _ _
  generalize hσ : σ ++ [Ob.box (cs.map .d)] = σ1 at g2 h1 kp
  have a1 := alive_of h1.hx (by simp)
  have a2 := alive_of g2 (by simp)
  have l0 := load_box (P := Try.prog) (t := 3) (k := 0) g2 (d_get hs.d0) (by simp only [W32]) (by simp only [W32])
  have l1 := load_box (P := Try.prog) (t := 3) (k := 1) g2 (d_get hs.f1) (by simp only [W32]) (by simp only [W32])
  have l2 := load_box (P := Try.prog) (t := 3) (k := 2) g2 (d_get hs.t2) (by simp only [W32]) (by simp only [W32])
  have l3 := load_box (P := Try.prog) (t := 3) (k := 3) g2 (d_get hs.a3) (by simp only [W32]) (by simp only [W32])
  have l4 := load_agg (P := Try.prog) (t := 42) (k := 4) g2 (by simp [hs.len, W32]) (by simp only [W32]) (by simp [W32])
  have e4 : ((cs.map V.d).drop 4).take (szOf Try.prog 42) = m.map .d := by
    rw [← List.map_drop, hs.m4, show szOf Try.prog 42 = 34 by simp only [W32]]
    exact List.take_of_length_le (by simp [hs.msg.len])
  rw [e4] at l4
  simp only [e32, c32, p32, Try.f32, codeOf, comp, opsOf, stOf, cop, cstp, copAt, planFor, List.find?, List.find?_nil, Option.map_none, Option.getD_none, List.any_cons, List.any_nil, Stp.idx, Bool.or_false, Nat.reduceBEq, ↓RP, RS, Int.reduceBEq, Int.reduceBNe, Int.reduceLT, Int.reduceLE, Int.reduceAdd, Int.reduceSub, ↓reduceIte, Nat.reduceAdd, Nat.reduceMul, Nat.reduceSub, Nat.reduceLT, Nat.reduceLeDiff, Nat.reduceEqDiff, decide_true, decide_false, fieldAddrF, undE, tupE, W32, boxE, cellsV, hσ, a1, a2, l0]
  refine CallK_use' (pick12 d 8 (by omega) (by omega) σ1) fun v0 s ⟨q1, q2⟩ => ?_
  subst q1; subst q2
  have hp8 := pickN_lt d (m := 8) (by omega)
  obtain ⟨hp, hp'⟩ | ⟨hp, hp'⟩ | ⟨hp, hp'⟩ | ⟨hp, hp'⟩ | ⟨hp, hp'⟩ | ⟨hp, hp'⟩ | ⟨hp, hp'⟩ | ⟨hp, hp'⟩ : (pickN d 8 = 0 ∧ ((pickN d 8 : Nat) : Int) = 0) ∨ (pickN d 8 = 1 ∧ ((pickN d 8 : Nat) : Int) = 1) ∨ (pickN d 8 = 2 ∧ ((pickN d 8 : Nat) : Int) = 2) ∨ (pickN d 8 = 3 ∧ ((pickN d 8 : Nat) : Int) = 3) ∨ (pickN d 8 = 4 ∧ ((pickN d 8 : Nat) : Int) = 4) ∨ (pickN d 8 = 5 ∧ ((pickN d 8 : Nat) : Int) = 5) ∨ (pickN d 8 = 6 ∧ ((pickN d 8 : Nat) : Int) = 6) ∨ (pickN d 8 = 7 ∧ ((pickN d 8 : Nat) : Int) = 7) := by omega
  all_goals simp only [hp', ↓RP, RS, Int.reduceBEq, Int.reduceBNe, Int.reduceLT, Int.reduceLE, Int.reduceAdd, Int.reduceSub, ↓reduceIte, Nat.reduceAdd, Nat.reduceMul, Nat.reduceSub, Nat.reduceLT, Nat.reduceLeDiff, Nat.reduceEqDiff, decide_true, decide_false, fieldAddrF, undE, tupE, W32, a1, a2, l0, l1, l2, l3, l4]
  · refine CallK_use' (send13 h1 hs.msg) fun v0 s1 ⟨q1, Q', role', n1, n2⟩ => ?_
    subst q1
    simp only [↓RP, RS, Int.reduceBEq, Int.reduceBNe, Int.reduceLT, Int.reduceLE, Int.reduceAdd, Int.reduceSub, ↓reduceIte, Nat.reduceAdd, Nat.reduceMul, Nat.reduceSub, Nat.reduceLT, Nat.reduceLeDiff, Nat.reduceEqDiff, decide_true, decide_false, fieldAddrF, undE, tupE, W32]
    exact hK.nrm (by rfl) ⟨Q', role', by simpa [stepN, hp] using n1, kp.trans n2⟩
  · refine CallK_use' (send13 h1 hs.msg) fun v0 s1 ⟨q1, Q', role', n1, n2⟩ => ?_
    subst q1
    simp only [↓RP, RS, Int.reduceBEq, Int.reduceBNe, Int.reduceLT, Int.reduceLE, Int.reduceAdd, Int.reduceSub, ↓reduceIte, Nat.reduceAdd, Nat.reduceMul, Nat.reduceSub, Nat.reduceLT, Nat.reduceLeDiff, Nat.reduceEqDiff, decide_true, decide_false, fieldAddrF, undE, tupE, W32]
    exact hK.nrm (by rfl) ⟨Q', role', by simpa [stepN, hp] using n1, kp.trans n2⟩
  · refine CallK_use' (send13 h1 hs.msg) fun v0 s1 ⟨q1, Q', role', n1, n2⟩ => ?_
    subst q1
    simp only [↓RP, RS, Int.reduceBEq, Int.reduceBNe, Int.reduceLT, Int.reduceLE, Int.reduceAdd, Int.reduceSub, ↓reduceIte, Nat.reduceAdd, Nat.reduceMul, Nat.reduceSub, Nat.reduceLT, Nat.reduceLeDiff, Nat.reduceEqDiff, decide_true, decide_false, fieldAddrF, undE, tupE, W32]
    exact hK.nrm (by rfl) ⟨Q', role', by simpa [stepN, hp] using n1, kp.trans n2⟩
  · refine CallK_use' (take15 h1 f t a) fun v0 s1 ⟨q1, Q', role', n1, n2⟩ => ?_
    subst q1
    simp only [↓RP, RS, Int.reduceBEq, Int.reduceBNe, Int.reduceLT, Int.reduceLE, Int.reduceAdd, Int.reduceSub, ↓reduceIte, Nat.reduceAdd, Nat.reduceMul, Nat.reduceSub, Nat.reduceLT, Nat.reduceLeDiff, Nat.reduceEqDiff, decide_true, decide_false, fieldAddrF, undE, tupE, W32]
    exact hK.nrm (by rfl) ⟨Q', role', by simpa [stepN, hp] using n1, kp.trans n2⟩
  · refine CallK_use' (lose17 h1 f t a) fun v0 s1 ⟨q1, Q', role', n1, n2⟩ => ?_
    subst q1
    simp only [↓RP, RS, Int.reduceBEq, Int.reduceBNe, Int.reduceLT, Int.reduceLE, Int.reduceAdd, Int.reduceSub, ↓reduceIte, Nat.reduceAdd, Nat.reduceMul, Nat.reduceSub, Nat.reduceLT, Nat.reduceLeDiff, Nat.reduceEqDiff, decide_true, decide_false, fieldAddrF, undE, tupE, W32]
    exact hK.nrm (by rfl) ⟨Q', role', by simpa [stepN, hp] using n1, kp.trans n2⟩
  · refine CallK_use' (twice19 h1 f t a) fun v0 s1 ⟨q1, Q', role', n1, n2⟩ => ?_
    subst q1
    simp only [↓RP, RS, Int.reduceBEq, Int.reduceBNe, Int.reduceLT, Int.reduceLE, Int.reduceAdd, Int.reduceSub, ↓reduceIte, Nat.reduceAdd, Nat.reduceMul, Nat.reduceSub, Nat.reduceLT, Nat.reduceLeDiff, Nat.reduceEqDiff, decide_true, decide_false, fieldAddrF, undE, tupE, W32]
    exact hK.nrm (by rfl) ⟨Q', role', by simpa [stepN, hp] using n1, kp.trans n2⟩
  · refine CallK_use (pick12 d 8 (by omega) (by omega) _) fun v0 s ⟨q1, q2⟩ => ⟨?_, ?_⟩
    · subst q1; subst q2
      simp only [chkC, wantC, ↓RP, RS, Int.reduceBEq, Int.reduceBNe, Int.reduceLT, Int.reduceLE, Int.reduceAdd, Int.reduceSub, ↓reduceIte, Nat.reduceAdd, Nat.reduceMul, Nat.reduceSub, Nat.reduceLT, Nat.reduceLeDiff, Nat.reduceEqDiff, decide_true, decide_false, fieldAddrF, undE, tupE, W32, a1, a2, l0, l1, l2]
    subst q1; subst q2
    simp only [hp', ↓RP, RS, Int.reduceBEq, Int.reduceBNe, Int.reduceLT, Int.reduceLE, Int.reduceAdd, Int.reduceSub, ↓reduceIte, Nat.reduceAdd, Nat.reduceMul, Nat.reduceSub, Nat.reduceLT, Nat.reduceLeDiff, Nat.reduceEqDiff, decide_true, decide_false, fieldAddrF, undE, tupE, W32]
    refine CallK_use' (cut21 h1 f t true) fun v0 s1 ⟨q1, Q', role', n1, n2⟩ => ?_
    subst q1
    simp only [↓RP, RS, Int.reduceBEq, Int.reduceBNe, Int.reduceLT, Int.reduceLE, Int.reduceAdd, Int.reduceSub, ↓reduceIte, Nat.reduceAdd, Nat.reduceMul, Nat.reduceSub, Nat.reduceLT, Nat.reduceLeDiff, Nat.reduceEqDiff, decide_true, decide_false, fieldAddrF, undE, tupE, W32]
    exact hK.nrm (by rfl) ⟨Q', role', by simpa [stepN, hp] using n1, kp.trans n2⟩
  · refine CallK_use (pick12 d 8 (by omega) (by omega) _) fun v0 s ⟨q1, q2⟩ => ⟨?_, ?_⟩
    · subst q1; subst q2
      simp only [chkC, wantC, ↓RP, RS, Int.reduceBEq, Int.reduceBNe, Int.reduceLT, Int.reduceLE, Int.reduceAdd, Int.reduceSub, ↓reduceIte, Nat.reduceAdd, Nat.reduceMul, Nat.reduceSub, Nat.reduceLT, Nat.reduceLeDiff, Nat.reduceEqDiff, decide_true, decide_false, fieldAddrF, undE, tupE, W32, a1, a2, l0, l1, l2]
    subst q1; subst q2
    simp only [hp', ↓RP, RS, Int.reduceBEq, Int.reduceBNe, Int.reduceLT, Int.reduceLE, Int.reduceAdd, Int.reduceSub, ↓reduceIte, Nat.reduceAdd, Nat.reduceMul, Nat.reduceSub, Nat.reduceLT, Nat.reduceLeDiff, Nat.reduceEqDiff, decide_true, decide_false, fieldAddrF, undE, tupE, W32]
    refine CallK_use' (cut21 h1 f t false) fun v0 s1 ⟨q1, Q', role', n1, n2⟩ => ?_
    subst q1
    simp only [↓RP, RS, Int.reduceBEq, Int.reduceBNe, Int.reduceLT, Int.reduceLE, Int.reduceAdd, Int.reduceSub, ↓reduceIte, Nat.reduceAdd, Nat.reduceMul, Nat.reduceSub, Nat.reduceLT, Nat.reduceLeDiff, Nat.reduceEqDiff, decide_true, decide_false, fieldAddrF, undE, tupE, W32]
    exact hK.nrm (by rfl) ⟨Q', role', by simpa [stepN, hp] using n1, kp.trans n2⟩
end Go.Proofs.Ytadddaafajennaa.Am
