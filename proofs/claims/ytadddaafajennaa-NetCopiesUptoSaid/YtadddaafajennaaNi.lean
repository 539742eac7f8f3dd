/- Walks: a message is lost, doubled; the sum of all lengths. -/
import Derived.Test.YtadddaafajennaaNh
set_option linter.unusedSimpArgs false
set_option linter.unusedVariables false
set_option maxRecDepth 10000
namespace Go.Proofs.Ytadddaafajennaa.Am
open Go Go.Proofs

def sumTo (f : Nat → Nat) : Nat → Nat
  | 0 => 0
  | k + 1 => sumTo f k + f k
theorem sumTo_le {f : Nat → Nat} {b : Nat} : ∀ k, (∀ i, i < k → f i ≤ b) → sumTo f k ≤ k * b
  | 0, _ => by simp [sumTo]
  | k + 1, h => by
    have := sumTo_le k fun i hi => h i (by omega)
    have := h k (by omega)
    simp only [sumTo, Nat.succ_mul]; omega
def rowLen (A : Links) (n i : Nat) : Nat := sumTo (fun j => (A i j).2.length) n
def totLen (A : Links) (n : Nat) : Nat := sumTo (rowLen A n) n

section
variable {σ : List Ob} {x n : Nat} {A : Links} {L : Nat} {R : Nat → Nat} {Q : Nat → Nat → Option Nat} {role : Nat → Role}

theorem noMsg_ok : ∃ ms, noMsg = .agg ms ∧ ms.length = 34 ∧ ms.all one1 = true := ⟨_, rfl, rfl, rfl⟩

theorem msgT_ok (h : NetAt σ x n A L R Q role) (f t i : Int) : ∃ ms, msgT n A f t i = .agg ms ∧ ms.length = 34 ∧ ms.all one1 = true := by
  unfold msgT
  split
  · rename_i ht
    obtain ⟨hL, h0, h1⟩ := ht
    obtain ⟨g0, g1, g2, g3, g4⟩ := hL
    have hk : i.toNat < (A f.toNat t.toNat).2.length := by omega
    obtain ⟨m, fm, tm, em, lm, hmd, hmo⟩ := h.msg f.toNat t.toNat (by omega) (by omega) (A f.toNat t.toNat).2[i.toNat] (by simp)
    refine ⟨m, ?_, hmo.len, hmo.one⟩
    rw [List.getD_eq_getElem?_getD, List.getElem?_eq_getElem hk, hmd]; rfl
  · exact noMsg_ok

theorem lose17 (h : NetAt σ x n A L R Q role) (f t i : Int) : callA Try.prog 17 [.ptr x 0 0, .d (.int .i64 f), .d (.int .i64 t), .d (.int .i64 i)] σ (fun r σ' => r = .d (.bool (decide (hasT n A f t i))) ∧ ∃ Q' role', NetAt σ' x n (if hasT n A f t i then popS A f.toNat t.toNat i.toNat else A) L R Q' role' ∧ Kept role role' σ σ') := by
  refine w17.go fun K hK => ?_
  simp only [e17, c17, p17, Try.f17, codeOf, comp, opsOf, stOf, cop, cstp, copAt, planFor, List.find?, List.find?_nil, Option.map_none, Option.getD_none, List.any_cons, List.any_nil, Stp.idx, Bool.or_false, Nat.reduceBEq, ↓RP, RS, Int.reduceBEq, Int.reduceBNe, Int.reduceLT, Int.reduceLE, Int.reduceAdd, Int.reduceSub, ↓reduceIte, Nat.reduceAdd, Nat.reduceMul, Nat.reduceSub, Nat.reduceLT, Nat.reduceLeDiff, Nat.reduceEqDiff, decide_true, decide_false, fieldAddrF, undE, tupE, W17]
  refine CallK_use' (take15 h f t i) fun v σ' ⟨q1, Q', role', n1, n2⟩ => ?_
  subst q1
  obtain ⟨ms, hm, m34, m1⟩ := msgT_ok h f t i
  have g0 : (σ' ++ [Ob.box z42])[σ'.length]? = some (.box z42) := by simp
  have st := store_aggd (P := Try.prog) (t := 42) (k := 0) g0 m1 (by simp [m34]; decide) (by simp [W17, m34]) (by simp [W17])
  rw [setAt_all (by simp [m34]; decide)] at st
  simp only [↓RP, RS, Int.reduceBEq, Int.reduceBNe, Int.reduceLT, Int.reduceLE, Int.reduceAdd, Int.reduceSub, ↓reduceIte, Nat.reduceAdd, Nat.reduceMul, Nat.reduceSub, Nat.reduceLT, Nat.reduceLeDiff, Nat.reduceEqDiff, decide_true, decide_false, fieldAddrF, undE, tupE, W17, hm, allocE, st]
  have kp : Kept role' role' σ' ((σ' ++ [Ob.box z42]).set σ'.length (.box (ms.map .d))) := ⟨⟨by simp, fun o ho _ => by rw [List.getElem?_set_ne (by omega)]; exact List.getElem?_append_left ho⟩, fun _ _ h => h⟩
  have n3 : NetAt ((σ' ++ [Ob.box z42]).set σ'.length (.box (ms.map .d))) x n (if hasT n A f t i then popS A f.toNat t.toNat i.toNat else A) L R Q' role' := n1.keep (S := fun _ => False) ⟨by simp, fun o ho _ => by rw [List.getElem?_set_ne (by omega)]; exact List.getElem?_append_left ho⟩ (fun _ q => q.elim)
  exact hK.ret (by rfl) ⟨by rfl, Q', role', n3, n2.trans kp⟩

def okW (n : Nat) (A : Links) (f t i : Int) : Prop := hasT n A f t i ∧ (A f.toNat t.toNat).2.length < 1024
instance (n : Nat) (A : Links) (f t i : Int) : Decidable (okW n A f t i) := by unfold okW; infer_instance

theorem twice19 (h : NetAt σ x n A L R Q role) (f t i : Int) : callA Try.prog 19 [.ptr x 0 0, .d (.int .i64 f), .d (.int .i64 t), .d (.int .i64 i)] σ (fun r σ' => r = .d (.bool (decide (okW n A f t i))) ∧ ∃ Q' role', NetAt σ' x n (if okW n A f t i then putS A f.toNat t.toNat (msgT n A f t i) else A) L R Q' role' ∧ Kept role role' σ σ') := by
  refine w19.go fun K hK => ?_
  have no : ∀ s, ¬ okW n A f t i → s.getD 8 .undef = .d (.bool false) → K .ret s σ := fun s hn h8 => by
    simp only [hn, if_false, decide_false] at hK
    exact hK.ret (r := .d (.bool false)) (by simp only [resF, resAll, resOne, e19, h8]) ⟨rfl, Q, role, h, Kept.refl _ _⟩
  simp only [e19, c19, p19, Try.f19, codeOf, comp, opsOf, stOf, cop, cstp, copAt, planFor, List.find?, List.find?_nil, Option.map_none, Option.getD_none, List.any_cons, List.any_nil, Stp.idx, Bool.or_false, Nat.reduceBEq, ↓RP, RS, Int.reduceBEq, Int.reduceBNe, Int.reduceLT, Int.reduceLE, Int.reduceAdd, Int.reduceSub, ↓reduceIte, Nat.reduceAdd, Nat.reduceMul, Nat.reduceSub, Nat.reduceLT, Nat.reduceLeDiff, Nat.reduceEqDiff, decide_true, decide_false, fieldAddrF, undE, tupE]
  by_cases hL : isL n f t
  · obtain ⟨a, ha⟩ : ∃ i : Nat, f = i := ⟨f.toNat, by unfold isL at hL; omega⟩
    obtain ⟨j, hj⟩ : ∃ j : Nat, t = j := ⟨t.toNat, by unfold isL at hL; omega⟩
    subst ha; subst hj
    have hi : a < n := by unfold isL at hL; omega
    have hj : j < n := by unfold isL at hL; omega
    refine CallK_use' (link35 h hi hj (by unfold isL at hL; omega)) fun v σ' ⟨q1, q2⟩ => ?_
    subst q1; subst q2
    obtain ⟨cs, hR, hcs⟩ := h.hR a hi
    have a1 := alive_of hR (by simp)
    simp only [↓RP, RS, Int.reduceBEq, Int.reduceBNe, Int.reduceLT, Int.reduceLE, Int.reduceAdd, Int.reduceSub, ↓reduceIte, Nat.reduceAdd, Nat.reduceMul, Nat.reduceSub, Nat.reduceLT, Nat.reduceLeDiff, Nat.reduceEqDiff, decide_true, decide_false, fieldAddrF, undE, tupE, W19, a1]
    refine CallK_use' (has40 i hR (hcs j hj).1 (h.hQ a j hi hj)) fun v σ'' ⟨q1, q2⟩ => ?_
    subst q1; subst q2
    by_cases hh : 0 ≤ i ∧ i < (A a j).2.length
    · have d1 : decide (0 ≤ i ∧ i < (A a j).2.length) = true := by simpa using hh
      obtain ⟨k, rfl⟩ : ∃ k : Nat, i = k := ⟨i.toNat, by omega⟩
      have hk : k < (A a j).2.length := by omega
      simp only [↓RP, RS, Int.reduceBEq, Int.reduceBNe, Int.reduceLT, Int.reduceLE, Int.reduceAdd, Int.reduceSub, ↓reduceIte, Nat.reduceAdd, Nat.reduceMul, Nat.reduceSub, Nat.reduceLT, Nat.reduceLeDiff, Nat.reduceEqDiff, decide_true, decide_false, fieldAddrF, undE, tupE, W19, a1, d1]
      refine CallK_use' (full36 hR (hcs j hj).1 (h.hQ a j hi hj)) fun v σ'' ⟨q1, q2⟩ => ?_
      subst q1; subst q2
      by_cases hf : 1024 ≤ (A a j).2.length
      · have d1 : decide (1024 ≤ (A a j).2.length) = true := by simpa using hf
        simp only [↓RP, RS, Int.reduceBEq, Int.reduceBNe, Int.reduceLT, Int.reduceLE, Int.reduceAdd, Int.reduceSub, ↓reduceIte, Nat.reduceAdd, Nat.reduceMul, Nat.reduceSub, Nat.reduceLT, Nat.reduceLeDiff, Nat.reduceEqDiff, decide_true, decide_false, fieldAddrF, undE, tupE, W19, d1]
        exact no _ (by simp [okW]; omega) rfl
      · have d1 : decide (1024 ≤ (A a j).2.length) = false := by simpa using hf
        have hQ := h.hQ a j hi hj
        cases hq : Q a j with
        | none => rw [hq] at hQ; simp only [ArrQ] at hQ; rw [hQ] at hk; simp at hk
        | some q =>
          have hQ0 := hQ
          rw [hq] at hQ
          obtain ⟨junk, hQ⟩ := hQ
          have hc0 := (hcs j hj).1
          rw [hq] at hc0
          obtain ⟨m, fm, tm, em, lm, hmd, hmo⟩ := h.msg a j hi hj (A a j).2[k] (by simp)
          have hmk : (A a j).2[k]? = some (.agg m) := by rw [List.getElem?_eq_getElem hk, hmd]
          have hmj : ((A a j).2 ++ junk)[k]? = some (.agg m) := by rw [List.getElem?_append_left hk]; exact hmk
          have b1 := alive_of hQ (by simp)
          have l1 := load_box (P := Try.prog) (t := 68) hR hc0 (by simp only [W19]) (by simp only [W19])
          have x1 := index_arr (P := Try.prog) (t := 68) (e := 42) (kd := .i64) (off := 0) (len := (A a j).2.length) hQ (by simp only [W19]) (by simp only [W19]) (by decide) hk
          rw [Nat.zero_add] at x1
          have l2 := load_elem (P := Try.prog) (t := 42) hQ hmj hmo.len (by simp only [W19]) (by simp only [W19]) (by simp [W19])
          simp only [↓RP, RS, Int.reduceBEq, Int.reduceBNe, Int.reduceLT, Int.reduceLE, Int.reduceAdd, Int.reduceSub, ↓reduceIte, Nat.reduceAdd, Nat.reduceMul, Nat.reduceSub, Nat.reduceLT, Nat.reduceLeDiff, Nat.reduceEqDiff, decide_true, decide_false, fieldAddrF, undE, tupE, W19, a1, d1, l1, cellQ, x1, l2]
          refine CallK_use' (callA_le (ys := [.ptr (R a) 0 (j * 2), .agg (m.map .d)]) ⟨_, _, rfl, VLe.refl _, _, _, rfl, VLe.agg' m, rfl⟩ (add37 (by omega) hR (hcs j hj).1 hQ0 (fun p hp e => by have := h.rR a hi; rw [← e, h.rQ a j hi hj p hp] at this; cases this) hmo)) fun v σ'' ⟨q', k1, k2, k3, k4⟩ => ?_
          simp only [↓RP, RS, Int.reduceBEq, Int.reduceBNe, Int.reduceLT, Int.reduceLE, Int.reduceAdd, Int.reduceSub, ↓reduceIte, Nat.reduceAdd, Nat.reduceMul, Nat.reduceSub, Nat.reduceLT, Nat.reduceLeDiff, Nat.reduceEqDiff, decide_true, decide_false, fieldAddrF, undE, tupE]
          obtain ⟨Q', role', n1, n2⟩ := put_ok h hi hj hR hcs ⟨m, _, _, em, lm, rfl, hmo⟩ (by omega) k1 k2 k3 k4
          have hT : hasT n A (a : Int) (j : Int) (k : Int) := ⟨hL, by omega, by simpa using hk⟩
          have hO : okW n A (a : Int) (j : Int) (k : Int) := ⟨hT, by simp; omega⟩
          refine hK.ret (by rfl) ⟨by simp [hO], Q', role', ?_, n2⟩
          simp only [hO, if_true, msgT, hT, Int.toNat_natCast, List.getD_eq_getElem?_getD, hmk, Option.getD_some]
          exact n1
    · have d1 : decide (0 ≤ i ∧ i < (A a j).2.length) = false := by simpa using hh
      simp only [↓RP, RS, Int.reduceBEq, Int.reduceBNe, Int.reduceLT, Int.reduceLE, Int.reduceAdd, Int.reduceSub, ↓reduceIte, Nat.reduceAdd, Nat.reduceMul, Nat.reduceSub, Nat.reduceLT, Nat.reduceLeDiff, Nat.reduceEqDiff, decide_true, decide_false, fieldAddrF, undE, tupE, W19, a1, d1]
      exact no _ (by simp [okW, hasT, hL]; omega) rfl
  · refine CallK_use' (link35_no h hL) fun v σ' ⟨q1, q2⟩ => ?_
    subst q1; subst q2
    simp only [↓RP, RS, Int.reduceBEq, Int.reduceBNe, Int.reduceLT, Int.reduceLE, Int.reduceAdd, Int.reduceSub, ↓reduceIte, Nat.reduceAdd, Nat.reduceMul, Nat.reduceSub, Nat.reduceLT, Nat.reduceLeDiff, Nat.reduceEqDiff, decide_true, decide_false, fieldAddrF, undE, tupE, W19]
    exact no _ (by simp [okW, hasT, hL]) rfl

theorem total28 (h : NetAt σ x n A L R Q role) : callA Try.prog 28 [.ptr x 0 0] σ (fun r σ' => r = .d (.int .i64 (totLen A n : Nat)) ∧ σ' = σ) := by
  refine w28.go fun K hK => ?_
  have n20 := h.n20
  obtain ⟨cL, hL, hcL⟩ := h.hL
  have a1 := alive_of h.hx (by simp)
  have a2 := alive_of hL (by simp)
  have l1 := load_box (P := Try.prog) (t := 64) (k := 0) h.hx rfl (by simp only [W28]) (by simp only [W28])
  simp only [e28, c28, p28, Try.f28, codeOf, comp, opsOf, stOf, cop, cstp, copAt, planFor, List.find?, List.find?_nil, Option.map_none, Option.getD_none, List.any_cons, List.any_nil, Stp.idx, Bool.or_false, Nat.reduceBEq, ↓RP, RS, Int.reduceBEq, Int.reduceBNe, Int.reduceLT, Int.reduceLE, Int.reduceAdd, Int.reduceSub, ↓reduceIte, Nat.reduceAdd, Nat.reduceMul, Nat.reduceSub, Nat.reduceLT, Nat.reduceLeDiff, Nat.reduceEqDiff, decide_true, decide_false, fieldAddrF, undE, tupE, W28, a1, a2, l1]
  have rl : ∀ i, i < n → rowLen A n i ≤ 20480 := fun i hi => Nat.le_trans (sumTo_le n fun j hj => h.few i j hi hj) (by omega)
  refine Loop_k [3, 10, 11, 12] (fun i : Nat => fr 0 31 [(3, .d (.int .i64 (sumTo (rowLen A n) i : Nat))), (10, .sl L 0 n), (11, .d (.int .i64 n)), (12, .d (.int .i64 i))]) (fun _ => σ) (fun i => i ≤ n) (fun i => n - i) 0 (by kernel_rfl) rfl (Nat.zero_le _) fun i hi => ?_
  by_cases hlt : i < n
  · have hd : decide ((i : Int) < n) = true := by simpa using hlt
    obtain ⟨cR, hR, hcR⟩ := h.hR i hlt
    have a3 := alive_of hR (by simp)
    have x1 := index_box (P := Try.prog) (t := 64) (e := 67) (kd := .i64) hL (by simp only [W28]) (by simp [W28]) hlt
    have l2 := load_box (P := Try.prog) (t := 67) hL (hcL i hlt) (by simp only [W28]) (by simp only [W28])
    have z1 : szOf Try.prog 67 = 1 := by simp only [W28]
    rw [z1, Nat.mul_one] at x1
    have w1 : IntKind.i64.wrap ((i : Int) + 1) = ((i + 1 : Nat) : Int) := by rw [IntWalk.i64_in _ (by omega)]; rfl
    have sb : sumTo (rowLen A n) i ≤ 409600 := Nat.le_trans (sumTo_le i fun k hk => rl k (by omega)) (by omega)
    simp only [fr, ↓RP, RS, Int.reduceBEq, Int.reduceBNe, Int.reduceLT, Int.reduceLE, Int.reduceAdd, Int.reduceSub, ↓reduceIte, Nat.reduceAdd, Nat.reduceMul, Nat.reduceSub, Nat.reduceLT, Nat.reduceLeDiff, Nat.reduceEqDiff, decide_true, decide_false, fieldAddrF, undE, tupE, W28, hd, x1, l2, a3]
    refine Loop_k [3, 10, 11, 12, 5, 17, 18] (fun j : Nat => fr 0 31 [(3, .d (.int .i64 (sumTo (rowLen A n) i + sumTo (fun j => (A i j).2.length) j : Nat))), (5, .sl (R i) 0 n), (10, .sl L 0 n), (11, .d (.int .i64 n)), (12, .d (.int .i64 i)), (17, .d (.int .i64 n)), (18, .d (.int .i64 j))]) (fun _ => σ) (fun j => j ≤ n) (fun j => n - j) 0 (by kernel_rfl) rfl (Nat.zero_le _) fun j hj => ?_
    by_cases hlj : j < n
    · have hd2 : decide ((j : Int) < n) = true := by simpa using hlj
      have x2 := index_box (P := Try.prog) (t := 67) (e := 77) (kd := .i64) hR (by simp only [W28]) (by simp [W28]) hlj
      have z2 : szOf Try.prog 77 = 2 := by simp only [W28]
      rw [z2] at x2
      have tb : sumTo (fun j => (A i j).2.length) j ≤ 20480 := Nat.le_trans (sumTo_le j fun k hk => h.few i k hlt (by omega)) (by omega)
      have fb := h.few i j hlt hlj
      have w2 : IntKind.i64.wrap ((j : Int) + 1) = ((j + 1 : Nat) : Int) := by rw [IntWalk.i64_in _ (by omega)]; rfl
      have w3 : IntKind.i64.wrap (((sumTo (rowLen A n) i + sumTo (fun j => (A i j).2.length) j : Nat) : Int) + ((A i j).2.length : Int)) = ((sumTo (rowLen A n) i + sumTo (fun j => (A i j).2.length) (j + 1) : Nat) : Int) := by
        rw [IntWalk.i64_in _ (by omega)]; simp only [sumTo]; omega
      simp only [fr, ↓RP, RS, Int.reduceBEq, Int.reduceBNe, Int.reduceLT, Int.reduceLE, Int.reduceAdd, Int.reduceSub, ↓reduceIte, Nat.reduceAdd, Nat.reduceMul, Nat.reduceSub, Nat.reduceLT, Nat.reduceLeDiff, Nat.reduceEqDiff, decide_true, decide_false, fieldAddrF, undE, tupE, W28, hd2, x2, a3]
      refine CallK_use' (size45 hR (hcR j hlj).1 (h.hQ i j hlt hlj)) fun v σ'' ⟨q1, q2⟩ => ?_
      subst q1; subst q2
      simp only [↓RP, RS, Int.reduceBEq, Int.reduceBNe, Int.reduceLT, Int.reduceLE, Int.reduceAdd, Int.reduceSub, ↓reduceIte, Nat.reduceAdd, Nat.reduceMul, Nat.reduceSub, Nat.reduceLT, Nat.reduceLeDiff, Nat.reduceEqDiff, decide_true, decide_false, fieldAddrF, undE, tupE, w2, w3]
      exact seqK_n ⟨j + 1, by omega, by omega, by kernel_rfl, rfl⟩
    · have hd2 : decide ((j : Int) < n) = false := by simpa using hlj
      have : j = n := by omega
      subst this
      simp only [fr, ↓RP, RS, Int.reduceBEq, Int.reduceBNe, Int.reduceLT, Int.reduceLE, Int.reduceAdd, Int.reduceSub, ↓reduceIte, Nat.reduceAdd, Nat.reduceMul, Nat.reduceSub, Nat.reduceLT, Nat.reduceLeDiff, Nat.reduceEqDiff, decide_true, decide_false, fieldAddrF, undE, tupE, W28, hd2, w1]
      exact seqK_n ⟨i + 1, by omega, by omega, by kernel_rfl, rfl⟩
  · have hd : decide ((i : Int) < n) = false := by simpa using hlt
    have : i = n := by omega
    subst this
    simp only [fr, ↓RP, RS, Int.reduceBEq, Int.reduceBNe, Int.reduceLT, Int.reduceLE, Int.reduceAdd, Int.reduceSub, ↓reduceIte, Nat.reduceAdd, Nat.reduceMul, Nat.reduceSub, Nat.reduceLT, Nat.reduceLeDiff, Nat.reduceEqDiff, decide_true, decide_false, fieldAddrF, undE, tupE, W28, hd]
    exact hK.ret (by rfl) ⟨by rfl, by rfl⟩
end
end Go.Proofs.Ytadddaafajennaa.Am
