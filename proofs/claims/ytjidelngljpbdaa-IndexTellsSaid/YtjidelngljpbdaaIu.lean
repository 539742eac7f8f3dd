/- The reference over texts: walk of Find. -/
import Derived.Test.YtjidelngljpbdaaIt
set_option linter.unusedSimpArgs false
set_option linter.unusedVariables false
set_option maxRecDepth 10000
set_option maxHeartbeats 4000000
namespace Go.Proofs.Ytjidelngljpbdaa.Am
open Go Go.Proofs

def goodT (ws : List W) (tx : W) : Bool := ws.all fun w => decide (w ∈ wordsOf tx)

theorem rfind20 {σ : List Ob} {v vw : V} {l : List TxI} {ws : List W} (h : TxAt σ v l) (hl : l.length ≤ 1000) (htx : ∀ e ∈ l, e.2.length ≤ 1000) (hv : LstAt σ vw ws) (hw : ws.length ≤ 1048576) :
    callA Try.prog 20 [v, vw] σ fun r σ' => ∃ out, LstAt σ' r out ∧ Asc out ∧ (∀ id, id ∈ out ↔ ws ≠ [] ∧ ∃ e ∈ l, e.1 = id ∧ goodT ws e.2 = true) ∧ Keeps (fun _ => False) σ σ' := by
  refine w20.go fun K hK => ?_
  simp only [e20, c20, p20, Try.f20, codeOf, comp, opsOf, stOf, cop, cstp, copAt, planFor, List.find?, List.find?_nil, Option.map_none, Option.getD_none, List.any_cons, List.any_nil, Stp.idx, Bool.or_false, Nat.reduceBEq, ↓RP, RS, Int.reduceBEq, Int.reduceBNe, Int.reduceLT, Int.reduceLE, Int.reduceAdd, Int.reduceSub, ↓reduceIte, Nat.reduceAdd, Nat.reduceMul, Nat.reduceSub, Nat.reduceLT, Nat.reduceLeDiff, Nat.reduceEqDiff, decide_true, decide_false, fieldAddrF, undE, tupE, W20]
  refine Loop_k [0, 1, 5, 6] (fun y : Nat × V × List W × List Ob => fr 0 53 [(0, v), (1, vw), (5, y.2.1), (6, .d (.int .i64 y.1))]) (fun y => y.2.2.2) (fun y => y.1 ≤ l.length ∧ LstAt y.2.2.2 y.2.1 y.2.2.1 ∧ Asc y.2.2.1 ∧ (∀ id, id ∈ y.2.2.1 ↔ ∃ e ∈ l.take y.1, e.1 = id ∧ goodT ws e.2 = true) ∧ y.2.2.1.length ≤ y.1 ∧ Keeps (fun _ => False) σ y.2.2.2 ∧ (ws = [] → y.1 = 0)) (fun y => l.length - y.1) (0, .d .nils, [], σ) (by kernel_rfl) rfl ⟨Nat.zero_le _, .nil, .nil, by simp, by simp, Keeps.refl _ _, fun _ => rfl⟩ fun ⟨k, r, out, sk⟩ ⟨hk, hL, hasc, hmem, hol, hkp, hz⟩ => ?_
  simp only at hk hL hasc hmem hol hkp hz ⊢
  have h' := h.keep hkp (fun _ _ _ _ h => h)
  have hv' := hv.keep hkp (fun _ _ _ _ h => h)
  have l1 := h'.len
  have l2 := hv'.len
  by_cases hlt : k < l.length
  · have e3 : decide ((k : Int) < (l.length : Int)) = true := decide_eq_true (by omega)
    by_cases hw0 : ws = []
    · subst hw0
      have e4 : decide (0 < ((([] : List W).length : Nat) : Int)) = false := by simp
      rw [List.length_nil] at l2 e4
      have hk0 : out = [] := List.length_eq_zero_iff.1 (by have := hz rfl; omega)
      simp only [fr, ↓RP, RS, Int.reduceBEq, Int.reduceBNe, Int.reduceLT, Int.reduceLE, Int.reduceAdd, Int.reduceSub, ↓reduceIte, Nat.reduceAdd, Nat.reduceMul, Nat.reduceSub, Nat.reduceLT, Nat.reduceLeDiff, Nat.reduceEqDiff, decide_true, decide_false, fieldAddrF, undE, tupE, W20, l1, l2, e3, e4]
      refine hK.ret (by rfl) ⟨out, hL, hasc, fun id => ?_, hkp⟩
      rw [hk0]; simp
    · have hp := List.length_pos_iff.2 hw0
      have e4 : decide (0 < (ws.length : Int)) = true := decide_eq_true (by omega)
      have w1 : IntKind.i64.wrap ((k : Int) + 1) = ((k + 1 : Nat) : Int) := by rw [IntWalk.i64_in _ (by omega)]; rfl
      obtain ⟨e, ge⟩ : ∃ w, l[k]? = some w := ⟨_, List.getElem?_eq_getElem hlt⟩
      obtain ⟨q0, x1, a0, y1, y2, y3⟩ := h'.get ge
      have hte := htx e (List.mem_of_getElem? ge)
      have hwe := wordsOf_len e.2
      simp only [fr, ↓RP, RS, Int.reduceBEq, Int.reduceBNe, Int.reduceLT, Int.reduceLE, Int.reduceAdd, Int.reduceSub, ↓reduceIte, Nat.reduceAdd, Nat.reduceMul, Nat.reduceSub, Nat.reduceLT, Nat.reduceLeDiff, Nat.reduceEqDiff, decide_true, decide_false, fieldAddrF, undE, tupE, W20, l1, l2, e3, e4, x1, a0, y2]
      refine CallK_use' (words11 e.2 (by omega) sk) fun v0 s1 ⟨q1, q2⟩ => ?_
      subst q1; rw [q2]
      simp only [wordsD, ↓RP, RS, Int.reduceBEq, Int.reduceBNe, Int.reduceLT, Int.reduceLE, Int.reduceAdd, Int.reduceSub, ↓reduceIte, Nat.reduceAdd, Nat.reduceMul, Nat.reduceSub, Nat.reduceLT, Nat.reduceLeDiff, Nat.reduceEqDiff, decide_true, decide_false, fieldAddrF, undE, tupE, W20]
      refine Loop_k [0, 1, 5, 6, 7, 8, 9] (fun j : Nat => fr 0 53 [(0, v), (1, vw), (5, r), (6, .d (.int .i64 k)), (7, .d (.lst 1 ((wordsOf e.2).map .str))), (8, .d (.bool (goodT (ws.take j) e.2))), (9, .d (.int .i64 j))]) (fun _ => sk) (fun j => j ≤ ws.length) (fun j => ws.length - j) 0 (by kernel_rfl) rfl (Nat.zero_le _) fun j hj => ?_
      by_cases hlj : j < ws.length
      · have e5 : decide ((j : Int) < (ws.length : Int)) = true := decide_eq_true (by omega)
        have w2 : IntKind.i64.wrap ((j : Int) + 1) = ((j + 1 : Nat) : Int) := by rw [IntWalk.i64_in _ (by omega)]; rfl
        obtain ⟨w, gw⟩ : ∃ w, ws[j]? = some w := ⟨_, List.getElem?_eq_getElem hlj⟩
        obtain ⟨ad, z1, z2⟩ := hv'.get gw
        have hgs : goodT (ws.take (j + 1)) e.2 = (goodT (ws.take j) e.2 && decide (w ∈ wordsOf e.2)) := by
          unfold goodT
          rw [List.take_add_one, gw, List.all_append]; simp
        simp only [fr, ↓RP, RS, Int.reduceBEq, Int.reduceBNe, Int.reduceLT, Int.reduceLE, Int.reduceAdd, Int.reduceSub, ↓reduceIte, Nat.reduceAdd, Nat.reduceMul, Nat.reduceSub, Nat.reduceLT, Nat.reduceLeDiff, Nat.reduceEqDiff, decide_true, decide_false, fieldAddrF, undE, tupE, W20, l2, e5, z1, z2]
        refine CallK_use' (has23 (.val (wordsOf e.2)) (by omega) w) fun v0 s2 ⟨q1, q2⟩ => ?_
        subst q1; rw [q2]
        cases hb : goodT (ws.take j) e.2 with
        | true =>
          rw [hb, Bool.true_and] at hgs
          simp only [hb, ↓RP, RS, Int.reduceBEq, Int.reduceBNe, Int.reduceLT, Int.reduceLE, Int.reduceAdd, Int.reduceSub, ↓reduceIte, Nat.reduceAdd, Nat.reduceMul, Nat.reduceSub, Nat.reduceLT, Nat.reduceLeDiff, Nat.reduceEqDiff, decide_true, decide_false, fieldAddrF, undE, tupE, W20, w2]
          exact seqK_n ⟨j + 1, hlj, by omega, by rw [hgs]; kernel_rfl, rfl⟩
        | false =>
          rw [hb, Bool.false_and] at hgs
          simp only [hb, ↓RP, RS, Int.reduceBEq, Int.reduceBNe, Int.reduceLT, Int.reduceLE, Int.reduceAdd, Int.reduceSub, ↓reduceIte, Nat.reduceAdd, Nat.reduceMul, Nat.reduceSub, Nat.reduceLT, Nat.reduceLeDiff, Nat.reduceEqDiff, decide_true, decide_false, fieldAddrF, undE, tupE, W20, w2]
          exact seqK_n ⟨j + 1, hlj, by omega, by rw [hgs]; kernel_rfl, rfl⟩
      · have e5 : decide ((j : Int) < (ws.length : Int)) = false := decide_eq_false (by omega)
        have htj : ws.take j = ws := List.take_of_length_le (by omega)
        have hm' : ∀ id, (∃ e' ∈ l.take (k + 1), e'.1 = id ∧ goodT ws e'.2 = true) ↔ (∃ e' ∈ l.take k, e'.1 = id ∧ goodT ws e'.2 = true) ∨ (e.1 = id ∧ goodT ws e.2 = true) := fun id => by
          rw [List.take_add_one, ge]
          constructor
          · rintro ⟨e', he', g⟩
            rcases List.mem_append.1 he' with he' | he'
            · exact .inl ⟨e', he', g⟩
            · simp at he'; subst he'; exact .inr g
          · rintro (⟨e', he', g⟩ | g)
            · exact ⟨e', List.mem_append.2 (.inl he'), g⟩
            · exact ⟨e, List.mem_append.2 (.inr (by simp)), g⟩
        cases hb : goodT ws e.2 with
        | true =>
          simp only [fr, ↓RP, RS, Int.reduceBEq, Int.reduceBNe, Int.reduceLT, Int.reduceLE, Int.reduceAdd, Int.reduceSub, ↓reduceIte, Nat.reduceAdd, Nat.reduceMul, Nat.reduceSub, Nat.reduceLT, Nat.reduceLeDiff, Nat.reduceEqDiff, decide_true, decide_false, fieldAddrF, undE, tupE, W20, l2, e5, htj, hb, x1, a0, y1]
          refine CallK_use' (insert27 hL hasc (by omega) e.1) fun v2 s3 ⟨out2, g1, g2, g3, g4, g5, g6⟩ => ?_
          simp only [↓RP, RS, Int.reduceBEq, Int.reduceBNe, Int.reduceLT, Int.reduceLE, Int.reduceAdd, Int.reduceSub, ↓reduceIte, Nat.reduceAdd, Nat.reduceMul, Nat.reduceSub, Nat.reduceLT, Nat.reduceLeDiff, Nat.reduceEqDiff, decide_true, decide_false, fieldAddrF, undE, tupE, W20, w1]
          refine seqK_n ⟨(k + 1, v2, out2, s3), ⟨hlt, g1, g2, fun id => ?_, by simp only; omega, hkp.trans g5 fun _ _ h => h, fun e => (hw0 e).elim⟩, by simp only; omega, by kernel_rfl, rfl⟩
          simp only
          rw [hm', g3, hmem, hb]
          constructor
          · rintro (g | g)
            · exact .inr ⟨g.symm, rfl⟩
            · exact .inl g
          · rintro (g | g)
            · exact .inr g
            · exact .inl g.1.symm
        | false =>
          simp only [fr, ↓RP, RS, Int.reduceBEq, Int.reduceBNe, Int.reduceLT, Int.reduceLE, Int.reduceAdd, Int.reduceSub, ↓reduceIte, Nat.reduceAdd, Nat.reduceMul, Nat.reduceSub, Nat.reduceLT, Nat.reduceLeDiff, Nat.reduceEqDiff, decide_true, decide_false, fieldAddrF, undE, tupE, W20, l2, e5, htj, hb, w1]
          refine seqK_n ⟨(k + 1, r, out, sk), ⟨hlt, hL, hasc, fun id => ?_, by simp only; omega, hkp, fun e => (hw0 e).elim⟩, by simp only; omega, by kernel_rfl, rfl⟩
          simp only
          rw [hm', hmem, hb]
          simp
  · have e3 : decide ((k : Int) < (l.length : Int)) = false := decide_eq_false (by omega)
    rw [List.take_of_length_le (by omega)] at hmem
    simp only [fr, ↓RP, RS, Int.reduceBEq, Int.reduceBNe, Int.reduceLT, Int.reduceLE, Int.reduceAdd, Int.reduceSub, ↓reduceIte, Nat.reduceAdd, Nat.reduceMul, Nat.reduceSub, Nat.reduceLT, Nat.reduceLeDiff, Nat.reduceEqDiff, decide_true, decide_false, fieldAddrF, undE, tupE, W20, l1, e3]
    refine hK.ret (by rfl) ⟨out, hL, hasc, fun id => ?_, hkp⟩
    by_cases hw0 : ws = []
    · have hk0 : out = [] := List.length_eq_zero_iff.1 (by have := hz hw0; omega)
      rw [hk0, hw0]; simp
    · rw [hmem]; simp [hw0]
end Go.Proofs.Ytjidelngljpbdaa.Am
