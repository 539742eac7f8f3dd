/- Walks: the rule is right. -/
import Derived.Test.YtchgfpehcjomeaaGreatDoorPa
set_option linter.unusedSimpArgs false
set_option linter.unusedVariables false
set_option maxRecDepth 100000
set_option maxHeartbeats 2000000
namespace Go.Proofs.YtchgfpehcjomeaaGreatDoor.Am
open Go Go.Proofs

def GoodW (w : W) : Prop := w.length ≤ 24 ∧ w ≠ [] ∧ ∀ b ∈ w, 97 ≤ b.toNat ∧ b.toNat ≤ 122

theorem text47 (w : W) (hw : w.length ≤ 24) (hb : ∀ b ∈ w, 97 ≤ b.toNat ∧ b.toNat ≤ 122) (τ : List Ob) : callA Tryz.prog 47 [.d (.str w)] τ fun r σ' => r = .d (.bool true) ∧ σ' = τ := by
  refine w47.go fun K hK => ?_
  simp only [e47, c47, p47, Tryz.f47, codeOf, comp, opsOf, stOf, cop, cstp, copAt, planFor, List.find?, List.find?_nil, Option.map_none, Option.getD_none, List.any_cons, List.any_nil, Stp.idx, Bool.or_false, Nat.reduceBEq, ↓RP, RS, Int.reduceBEq, Int.reduceBNe, Int.reduceLT, Int.reduceLE, Int.reduceAdd, Int.reduceSub, ↓reduceIte, Nat.reduceAdd, Nat.reduceMul, Nat.reduceSub, Nat.reduceLT, Nat.reduceLeDiff, Nat.reduceEqDiff, decide_true, decide_false, fieldAddrF, undE, tupE, W47]
  refine Loop_k [0, 5, 6] (fun i : Nat => fr 0 35 [(0, .d (.str w)), (5, .d (.int .i64 w.length)), (6, .d (.int .i64 i))]) (fun _ => τ) (fun i => i ≤ w.length) (fun i => w.length - i) 0 (by kernel_rfl) rfl (Nat.zero_le _) fun i hi => ?_
  have hw1 : IntKind.i64.wrap ((i : Int) + 1) = ((i + 1 : Nat) : Int) := by rw [IntWalk.i64_in _ (by omega)]; rfl
  by_cases hlt : i < w.length
  · have hd : decide ((i : Int) < (w.length : Int)) = true := by simpa using hlt
    obtain ⟨b, hb1⟩ : ∃ b, w[i]? = some b := ⟨w[i], List.getElem?_eq_getElem hlt⟩
    obtain ⟨g1, g2⟩ := hb b (List.mem_of_getElem? hb1)
    have x1 := ixs hb1
    have e1 : decide ((b.toNat : Int) < 32) = false := by simp; omega
    have e2 : decide ((126 : Int) < b.toNat) = false := by simp; omega
    have e3 : ((b.toNat : Int) == 34) = false := by simp; omega
    have e4 : ((b.toNat : Int) == 92) = false := by simp; omega
    simp only [fr, ↓RP, RS, Int.reduceBEq, Int.reduceBNe, Int.reduceLT, Int.reduceLE, Int.reduceAdd, Int.reduceSub, ↓reduceIte, Nat.reduceAdd, Nat.reduceMul, Nat.reduceSub, Nat.reduceLT, Nat.reduceLeDiff, Nat.reduceEqDiff, decide_true, decide_false, fieldAddrF, undE, tupE, W47, hd, x1, e1, e2, e3, e4, hw1]
    exact seqK_n ⟨i + 1, by omega, by omega, by kernel_rfl, rfl⟩
  · have hd : decide ((i : Int) < (w.length : Int)) = false := by simpa using hlt
    have hd2 : decide ((w.length : Int) ≤ 24) = true := by simp; omega
    simp only [fr, ↓RP, RS, Int.reduceBEq, Int.reduceBNe, Int.reduceLT, Int.reduceLE, Int.reduceAdd, Int.reduceSub, ↓reduceIte, Nat.reduceAdd, Nat.reduceMul, Nat.reduceSub, Nat.reduceLT, Nat.reduceLeDiff, Nat.reduceEqDiff, decide_true, decide_false, fieldAddrF, undE, tupE, W47, hd, hd2]
    exact hK.ret (by rfl) ⟨by rfl, by rfl⟩

def exprL (w : W) : List D := [.int .i64 5, .int .i64 0, .str w, .nils]

theorem fields103 (w : W) (hg : GoodW w) (τ : List Ob) : callA Tryz.prog 103 [.d .nils, .agg ((exprL w).map .d), .d (.int .i64 0)] τ fun r σ' => r = .d (.bool true) ∧ Keeps (fun _ => False) τ σ' := by
  refine w103.go fun K hK => ?_
  have hne : strBin .eql w [] = some (.bool false) := by simp [strBin, hg.2.1]
  obtain ⟨σ1, hσ1⟩ : ∃ σ1, σ1 = τ ++ [Ob.box ((exprL w).map .d)] := ⟨_, rfl⟩
  have g0 : σ1[τ.length]? = some (.box ((exprL w).map .d)) := by rw [hσ1]; simp
  have k1 : Keeps (fun _ => False) τ σ1 := by rw [hσ1]; exact Keeps.app _ _ _
  have a0 := alive_of g0 (by simp)
  have l0 := load_box (P := Tryz.prog) (t := 3) (k := 0) g0 rfl (by simp only [W103]) (by simp only [W103])
  have l1 := load_box (P := Tryz.prog) (t := 3) (k := 1) g0 rfl (by simp only [W103]) (by simp only [W103])
  have l2 := load_box (P := Tryz.prog) (t := 9) (k := 2) g0 rfl (by simp only [W103]) (by simp only [W103])
  simp only [e103, c103, p103, Tryz.f103, codeOf, comp, opsOf, stOf, cop, cstp, copAt, planFor, List.find?, List.find?_nil, Option.map_none, Option.getD_none, List.any_cons, List.any_nil, Stp.idx, Bool.or_false, Nat.reduceBEq, ↓RP, RS, Int.reduceBEq, Int.reduceBNe, Int.reduceLT, Int.reduceLE, Int.reduceAdd, Int.reduceSub, ↓reduceIte, Nat.reduceAdd, Nat.reduceMul, Nat.reduceSub, Nat.reduceLT, Nat.reduceLeDiff, Nat.reduceEqDiff, decide_true, decide_false, fieldAddrF, undE, tupE, W103, boxE, cellsV, ← hσ1, a0, l0, l1, l2, hne]
  refine CallK_use' (text47 w hg.1 hg.2.2 _) fun v σ' ⟨q1, q2⟩ => ?_
  subst q1; subst q2
  simp only [↓RP, RS, Int.reduceBEq, Int.reduceBNe, Int.reduceLT, Int.reduceLE, Int.reduceAdd, Int.reduceSub, ↓reduceIte, Nat.reduceAdd, Nat.reduceMul, Nat.reduceSub, Nat.reduceLT, Nat.reduceLeDiff, Nat.reduceEqDiff, decide_true, decide_false, fieldAddrF, undE, tupE, W103, a0, l0, l1, l2]
  exact hK.ret (by rfl) ⟨by rfl, k1⟩

theorem arity104 (w : W) (τ : List Ob) : callA Tryz.prog 104 [.d .nils, .agg ((exprL w).map .d)] τ fun r σ' => r = .d (.int .i64 0) ∧ σ' = τ := by
  have h : callA Tryz.prog 104 [.d .nils, .agg ((exprL w).map .d)] [] fun r σ' => r = .d (.int .i64 0) ∧ σ' = [] := run_okK nat00_ok tabOk 60 (by kernel_rfl)
  exact callA_val h τ (by simp [embVs, renVs, renV, renVs_d])

theorem fits72 (w : W) (hg : GoodW w) (τ : List Ob) : callA Tryz.prog 72 [.d .nils, .agg ((exprL w).map .d), .d (.int .i64 0), .d (.int .i64 40)] τ fun r σ' => r = .d (.bool true) ∧ Keeps (fun _ => False) τ σ' := by
  refine w72.go fun K hK => ?_
  obtain ⟨σ1, hσ1⟩ : ∃ σ1, σ1 = τ ++ [Ob.box ((exprL w).map .d)] := ⟨_, rfl⟩
  have g0 : σ1[τ.length]? = some (.box ((exprL w).map .d)) := by rw [hσ1]; simp
  have k1 : Keeps (fun _ => False) τ σ1 := by rw [hσ1]; exact Keeps.app _ _ _
  have lA : ∀ (σ : List Ob), σ[τ.length]? = some (.box ((exprL w).map .d)) → alive σ τ.length = true ∧ loadF Tryz.prog 69 σ (.ptr τ.length 0 0) = some (.agg ((exprL w).map .d)) ∧ loadF Tryz.prog 67 σ (.ptr τ.length 0 3) = some (.d .nils) := fun σ g =>
    ⟨alive_of g (by simp), load_all (P := Tryz.prog) (t := 69) g (by simp [exprL, W72]) (by simp only [W72]) (by simp [W72]), load_box (P := Tryz.prog) (t := 67) (k := 3) g rfl (by simp only [W72]) (by simp only [W72])⟩
  obtain ⟨a0, l0, l3⟩ := lA _ g0
  simp only [e72, c72, p72, Tryz.f72, codeOf, comp, opsOf, stOf, cop, cstp, copAt, planFor, List.find?, List.find?_nil, Option.map_none, Option.getD_none, List.any_cons, List.any_nil, Stp.idx, Bool.or_false, Nat.reduceBEq, ↓RP, RS, Int.reduceBEq, Int.reduceBNe, Int.reduceLT, Int.reduceLE, Int.reduceAdd, Int.reduceSub, ↓reduceIte, Nat.reduceAdd, Nat.reduceMul, Nat.reduceSub, Nat.reduceLT, Nat.reduceLeDiff, Nat.reduceEqDiff, decide_true, decide_false, fieldAddrF, undE, tupE, W72, boxE, cellsV, ← hσ1, a0, l0, l3]
  refine CallK_use (fields103 w hg σ1) fun v σ2 ⟨q1, k2⟩ => ?_
  subst q1
  obtain ⟨a2, l2, l4⟩ := lA _ (k2.get g0 (fun h => h))
  refine ⟨by simp only [chkC, wantC, ↓RP, RS, Int.reduceBEq, Int.reduceBNe, Int.reduceLT, Int.reduceLE, Int.reduceAdd, Int.reduceSub, ↓reduceIte, Nat.reduceAdd, Nat.reduceMul, Nat.reduceSub, Nat.reduceLT, Nat.reduceLeDiff, Nat.reduceEqDiff, decide_true, decide_false, fieldAddrF, undE, tupE, W72, a2, l2, l4], ?_⟩
  simp only [↓RP, RS, Int.reduceBEq, Int.reduceBNe, Int.reduceLT, Int.reduceLE, Int.reduceAdd, Int.reduceSub, ↓reduceIte, Nat.reduceAdd, Nat.reduceMul, Nat.reduceSub, Nat.reduceLT, Nat.reduceLeDiff, Nat.reduceEqDiff, decide_true, decide_false, fieldAddrF, undE, tupE, W72, a2, l2, l4]
  refine CallK_use (arity104 w σ2) fun v σ3 ⟨q1, q2⟩ => ?_
  subst q1; subst q2
  refine ⟨by simp only [chkC, wantC, ↓RP, RS, Int.reduceBEq, Int.reduceBNe, Int.reduceLT, Int.reduceLE, Int.reduceAdd, Int.reduceSub, ↓reduceIte, Nat.reduceAdd, Nat.reduceMul, Nat.reduceSub, Nat.reduceLT, Nat.reduceLeDiff, Nat.reduceEqDiff, decide_true, decide_false, fieldAddrF, undE, tupE, W72, a2, l2, l4], ?_⟩
  simp only [↓RP, RS, Int.reduceBEq, Int.reduceBNe, Int.reduceLT, Int.reduceLE, Int.reduceAdd, Int.reduceSub, ↓reduceIte, Nat.reduceAdd, Nat.reduceMul, Nat.reduceSub, Nat.reduceLT, Nat.reduceLeDiff, Nat.reduceEqDiff, decide_true, decide_false, fieldAddrF, undE, tupE, W72, a2, l2, l4]
  refine Loop_k [32, 33] (fun _ : Unit => fr 0 56 [(32, .d (.int .i64 0)), (33, .d (.int .i64 0))]) (fun _ => _) (fun _ => True) (fun _ => 0) () (by kernel_rfl) rfl trivial fun _ _ => ?_
  have hd : decide ((0 : Int) < 0) = false := rfl
  simp only [fr, ↓RP, RS, Int.reduceBEq, Int.reduceBNe, Int.reduceLT, Int.reduceLE, Int.reduceAdd, Int.reduceSub, ↓reduceIte, Nat.reduceAdd, Nat.reduceMul, Nat.reduceSub, Nat.reduceLT, Nat.reduceLeDiff, Nat.reduceEqDiff, decide_true, decide_false, fieldAddrF, undE, tupE, W72, hd]
  exact hK.ret (by rfl) ⟨by rfl, k1.trans k2 fun _ _ h => h⟩

def clL (w : W) : List D := [.int .i64 5, .int .i64 0, .str w, .nils, .int .i64 3, .str [102, 111, 117, 110, 100]]
theorem ruleL_eq (w : W) : ruleL w = [.nils, .lst 6 [.agg (clL w)], .int .i64 0] := rfl

theorem trees48 (w : W) (hg : GoodW w) (τ : List Ob) : callA Tryz.prog 48 [.agg ((ruleL w).map .d)] τ fun r σ' => r = .d (.bool true) ∧ Keeps (fun _ => False) τ σ' := by
  refine w48.go fun K hK => ?_
  obtain ⟨B, hB⟩ : ∃ B, B = τ.length := ⟨_, rfl⟩
  obtain ⟨σ1, hσ1⟩ : ∃ σ1, σ1 = τ ++ [Ob.box ((ruleL w).map .d)] := ⟨_, rfl⟩
  have g0 : σ1[B]? = some (.box ((ruleL w).map .d)) := by rw [hσ1, hB]; simp
  have k1 : Keeps (fun _ => False) τ σ1 := by rw [hσ1]; exact Keeps.app _ _ _
  have lA : ∀ (σ : List Ob), σ[B]? = some (.box ((ruleL w).map .d)) → alive σ B = true ∧ loadF Tryz.prog 25 σ (.ptr B 0 0) = some (.d .nils) ∧ loadF Tryz.prog 26 σ (.ptr B 0 1) = some (.d (.lst 6 [.agg (clL w)])) := fun σ g =>
    ⟨alive_of g (by simp), load_box (P := Tryz.prog) (t := 25) (k := 0) g rfl (by simp only [W48]) (by simp only [W48]), load_box (P := Tryz.prog) (t := 26) (k := 1) g rfl (by simp only [W48]) (by simp only [W48])⟩
  obtain ⟨a0, l0, l1⟩ := lA _ g0
  simp only [e48, c48, p48, Tryz.f48, codeOf, comp, opsOf, stOf, cop, cstp, copAt, planFor, List.find?, List.find?_nil, Option.map_none, Option.getD_none, List.any_cons, List.any_nil, Stp.idx, Bool.or_false, Nat.reduceBEq, ↓RP, RS, Int.reduceBEq, Int.reduceBNe, Int.reduceLT, Int.reduceLE, Int.reduceAdd, Int.reduceSub, ↓reduceIte, Nat.reduceAdd, Nat.reduceMul, Nat.reduceSub, Nat.reduceLT, Nat.reduceLeDiff, Nat.reduceEqDiff, decide_true, decide_false, fieldAddrF, undE, tupE, W48, boxE, cellsV, ← hσ1, ← hB, a0, l0, l1]
  refine Loop_k [1, 9, 10] (fun _ : Unit => fr 0 38 [(1, .ptr B 0 0), (9, .d (.int .i64 0)), (10, .d (.int .i64 0))]) (fun _ => σ1) (fun _ => True) (fun _ => 0) () (by kernel_rfl) rfl trivial fun _ _ => ?_
  have hd : decide ((0 : Int) < 0) = false := rfl
  simp only [fr, ↓RP, RS, Int.reduceBEq, Int.reduceBNe, Int.reduceLT, Int.reduceLE, Int.reduceAdd, Int.reduceSub, ↓reduceIte, Nat.reduceAdd, Nat.reduceMul, Nat.reduceSub, Nat.reduceLT, Nat.reduceLeDiff, Nat.reduceEqDiff, decide_true, decide_false, fieldAddrF, undE, tupE, W48, hd, a0, l0, l1]
  refine Loop_k [1, 25, 26, 27] (fun y : Nat × List Ob => fr 0 38 [(1, .ptr B 0 0), (25, .d (.lst 6 [.agg (clL w)])), (26, .d (.int .i64 (1 : Nat))), (27, .d (.int .i64 y.1))]) (fun y => y.2) (fun y => y.1 ≤ 1 ∧ Keeps (fun _ => False) σ1 y.2) (fun y => 1 - y.1) (0, σ1) (by kernel_rfl) rfl ⟨Nat.zero_le _, Keeps.refl _ _⟩ fun ⟨i, σ⟩ hI => ?_
  obtain ⟨hi, kk⟩ := hI
  simp only at hi kk ⊢
  by_cases hi0 : i = 0
  · subst hi0
    have hd1 : decide (((0 : Nat) : Int) < ((1 : Nat) : Int)) = true := rfl
    have hw : IntKind.i64.wrap (((0 : Nat) : Int) + 1) = ((1 : Nat) : Int) := rfl
    have x1 : indexAddrF Tryz.prog 26 σ (.d (.lst 6 [.agg (clL w)])) (.d (.int .i64 ((0 : Nat) : Int))) = some (.ipt (clL w)) := index_lst (P := Tryz.prog) (t := 26) (e := 71) (kd := .i64) (by simp only [W48]) (by simp only [W48]) rfl rfl
    have x2 : loadF Tryz.prog 71 σ (.ipt (clL w)) = some (.d (.agg (clL w))) := by
      simp only [loadF, takeD, W48, if_true]; rfl
    have hzl : z71.length = 6 := rfl
    have n1 : (σ ++ [Ob.box z71])[σ.length]? = some (.box z71) := by simp
    have st := store_aggd (P := Tryz.prog) (t := 71) (k := 0) n1 (xs := clL w) rfl (by simp [clL, hzl]) (by simp [clL, W48]) (by simp [W48])
    rw [setAt_all (by simp [clL, hzl]), List.set_append_right _ _ (Nat.le_refl _), Nat.sub_self, List.set_cons_zero] at st
    have n2 : (σ ++ [Ob.box ((clL w).map .d)])[σ.length]? = some (.box ((clL w).map .d)) := by simp
    have k2 : Keeps (fun _ => False) σ (σ ++ [Ob.box ((clL w).map .d)]) := Keeps.app _ _ _
    have g2 := (kk.trans k2 fun _ _ h => h).get g0 (fun h => h)
    obtain ⟨a2, l2, l3⟩ := lA _ g2
    have a3 := alive_of n2 (by simp)
    have l4 := load_agg (P := Tryz.prog) (t := 69) (k := 0) n2 (by simp [clL, W48]) (by simp only [W48]) (by simp [W48])
    rw [show szOf Tryz.prog 69 = 4 by simp only [W48], show (((clL w).map V.d).drop 0).take 4 = (exprL w).map .d from rfl] at l4
    simp only [fr, ↓RP, RS, Int.reduceBEq, Int.reduceBNe, Int.reduceLT, Int.reduceLE, Int.reduceAdd, Int.reduceSub, ↓reduceIte, Nat.reduceAdd, Nat.reduceMul, Nat.reduceSub, Nat.reduceLT, Nat.reduceLeDiff, Nat.reduceEqDiff, decide_true, decide_false, fieldAddrF, undE, tupE, W48, hd1, x1, x2, allocE, st, a2, a3, l2, l4]
    refine CallK_use' (fits72 w hg _) fun v σ' ⟨q1, k3⟩ => ?_
    subst q1
    simp only [↓RP, RS, Int.reduceBEq, Int.reduceBNe, Int.reduceLT, Int.reduceLE, Int.reduceAdd, Int.reduceSub, ↓reduceIte, Nat.reduceAdd, Nat.reduceMul, Nat.reduceSub, Nat.reduceLT, Nat.reduceLeDiff, Nat.reduceEqDiff, decide_true, decide_false, fieldAddrF, undE, tupE, W48, hw]
    exact seqK_n ⟨(1, σ'), ⟨Nat.le_refl _, (kk.trans k2 fun _ _ h => h).trans k3 fun _ _ h => h⟩, by simp, by kernel_rfl, rfl⟩
  · have hi1 : i = 1 := by omega
    subst hi1
    have hd1 : decide (((1 : Nat) : Int) < ((1 : Nat) : Int)) = false := rfl
    simp only [fr, ↓RP, RS, Int.reduceBEq, Int.reduceBNe, Int.reduceLT, Int.reduceLE, Int.reduceAdd, Int.reduceSub, ↓reduceIte, Nat.reduceAdd, Nat.reduceMul, Nat.reduceSub, Nat.reduceLT, Nat.reduceLeDiff, Nat.reduceEqDiff, decide_true, decide_false, fieldAddrF, undE, tupE, W48, hd1]
    exact hK.ret (by rfl) ⟨by rfl, k1.trans kk fun _ _ h => h⟩

theorem action46 (n : Nat) (hn : n = 0 ∨ n = 3) (τ : List Ob) : callA Tryz.prog 46 [.d (.int .i64 n)] τ fun r σ' => r = .d (.bool true) ∧ σ' = τ := by
  refine callA_val ?_ τ rfl
  rcases hn with rfl | rfl
  · exact run_okK nat00_ok tabOk 60 (by kernel_rfl)
  · exact run_okK nat00_ok tabOk 60 (by kernel_rfl)
theorem typed49 (w : W) (τ : List Ob) : callA Tryz.prog 49 [.agg ((ruleL w).map .d)] τ fun r σ' => r = .d (.bool true) ∧ σ' = τ := by
  have h : callA Tryz.prog 49 [.agg ((ruleL w).map .d)] [] fun r σ' => r = .d (.bool true) ∧ σ' = [] := run_okK nat00_ok tabOk 60 (by kernel_rfl)
  exact callA_val h τ (by simp [embVs, renVs, renV, renVs_d])

theorem right19 (w : W) (hg : GoodW w) (τ : List Ob) : callA Tryz.prog 19 [.agg ((ruleL w).map .d)] τ fun r σ' => r = .d (.bool true) ∧ Keeps (fun _ => False) τ σ' := by
  refine w19.go fun K hK => ?_
  obtain ⟨B, hB⟩ : ∃ B, B = τ.length := ⟨_, rfl⟩
  obtain ⟨σ0, hσ0⟩ : ∃ σ0, σ0 = τ ++ [Ob.box ((ruleL w).map .d)] := ⟨_, rfl⟩
  obtain ⟨σ1, hσ1⟩ : ∃ σ1, σ1 = σ0 ++ [Ob.map [] 0] := ⟨_, rfl⟩
  have g0 : σ1[B]? = some (.box ((ruleL w).map .d)) := by rw [hσ1]; exact app_get (by rw [hσ0, hB]; simp) _
  have k1 : Keeps (fun _ => False) τ σ1 := by rw [hσ1, hσ0]; exact (Keeps.app _ _ _).trans (Keeps.app _ _ _) fun _ _ h => h
  have lA : ∀ (σ : List Ob), σ[B]? = some (.box ((ruleL w).map .d)) → alive σ B = true ∧ loadF Tryz.prog 25 σ (.ptr B 0 0) = some (.d .nils) ∧ loadF Tryz.prog 26 σ (.ptr B 0 1) = some (.d (.lst 6 [.agg (clL w)])) ∧ loadF Tryz.prog 3 σ (.ptr B 0 2) = some (.d (.int .i64 0)) ∧ loadF Tryz.prog 28 σ (.ptr B 0 0) = some (.agg ((ruleL w).map .d)) := fun σ g =>
    ⟨alive_of g (by simp), load_box (P := Tryz.prog) (t := 25) (k := 0) g rfl (by simp only [W19]) (by simp only [W19]), load_box (P := Tryz.prog) (t := 26) (k := 1) g rfl (by simp only [W19]) (by simp only [W19]), load_box (P := Tryz.prog) (t := 3) (k := 2) g rfl (by simp only [W19]) (by simp only [W19]), load_all (P := Tryz.prog) (t := 28) g (by simp [ruleL, W19]) (by simp only [W19]) (by simp [W19])⟩
  obtain ⟨a0, l0, l1, _⟩ := lA _ g0
  simp only [e19, c19, p19, Tryz.f19, codeOf, comp, opsOf, stOf, cop, cstp, copAt, planFor, List.find?, List.find?_nil, Option.map_none, Option.getD_none, List.any_cons, List.any_nil, Stp.idx, Bool.or_false, Nat.reduceBEq, ↓RP, RS, Int.reduceBEq, Int.reduceBNe, Int.reduceLT, Int.reduceLE, Int.reduceAdd, Int.reduceSub, ↓reduceIte, Nat.reduceAdd, Nat.reduceMul, Nat.reduceSub, Nat.reduceLT, Nat.reduceLeDiff, Nat.reduceEqDiff, decide_true, decide_false, fieldAddrF, undE, tupE, W19, boxE, cellsV, ← hσ0, ← hσ1, ← hB, a0, l0, l1]
  refine Loop_k [1, 13, 14] (fun _ : Unit => fr 0 85 [(1, .ptr B 0 0), (13, .d (.int .i64 0)), (14, .d (.int .i64 0))]) (fun _ => σ1) (fun _ => True) (fun _ => 0) () (by kernel_rfl) rfl trivial fun _ _ => ?_
  have hd : decide ((0 : Int) < 0) = false := rfl
  simp only [fr, ↓RP, RS, Int.reduceBEq, Int.reduceBNe, Int.reduceLT, Int.reduceLE, Int.reduceAdd, Int.reduceSub, ↓reduceIte, Nat.reduceAdd, Nat.reduceMul, Nat.reduceSub, Nat.reduceLT, Nat.reduceLeDiff, Nat.reduceEqDiff, decide_true, decide_false, fieldAddrF, undE, tupE, W19, hd, a0, l0, l1]
  refine Loop_k [1, 57, 58, 59] (fun y : Nat × List Ob => fr 0 85 [(1, .ptr B 0 0), (57, .d (.lst 6 [.agg (clL w)])), (58, .d (.int .i64 (1 : Nat))), (59, .d (.int .i64 y.1))]) (fun y => y.2) (fun y => y.1 ≤ 1 ∧ Keeps (fun _ => False) σ1 y.2) (fun y => 1 - y.1) (0, σ1) (by kernel_rfl) rfl ⟨Nat.zero_le _, Keeps.refl _ _⟩ fun ⟨i, σ⟩ hI => ?_
  obtain ⟨hi, kk⟩ := hI
  simp only at hi kk ⊢
  by_cases hi0 : i = 0
  · subst hi0
    have hd1 : decide (((0 : Nat) : Int) < ((1 : Nat) : Int)) = true := rfl
    have hw : IntKind.i64.wrap (((0 : Nat) : Int) + 1) = ((1 : Nat) : Int) := rfl
    have x1 : indexAddrF Tryz.prog 26 σ (.d (.lst 6 [.agg (clL w)])) (.d (.int .i64 ((0 : Nat) : Int))) = some (.ipt (clL w)) := index_lst (P := Tryz.prog) (t := 26) (e := 71) (kd := .i64) (by simp only [W19]) (by simp only [W19]) rfl rfl
    have x2 : loadF Tryz.prog 71 σ (.ipt (clL w)) = some (.d (.agg (clL w))) := by
      simp only [loadF, takeD, W19, if_true]; rfl
    have hzl : z71.length = 6 := rfl
    have n1 : (σ ++ [Ob.box z71])[σ.length]? = some (.box z71) := by simp
    have st := store_aggd (P := Tryz.prog) (t := 71) (k := 0) n1 (xs := clL w) rfl (by simp [clL, hzl]) (by simp [clL, W19]) (by simp [W19])
    rw [setAt_all (by simp [clL, hzl]), List.set_append_right _ _ (Nat.le_refl _), Nat.sub_self, List.set_cons_zero] at st
    have n2 : (σ ++ [Ob.box ((clL w).map .d)])[σ.length]? = some (.box ((clL w).map .d)) := by simp
    have k2 : Keeps (fun _ => False) σ (σ ++ [Ob.box ((clL w).map .d)]) := Keeps.app _ _ _
    have a3 := alive_of n2 (by simp)
    have l4 := load_box (P := Tryz.prog) (t := 3) (k := 4) n2 rfl (by simp only [W19]) (by simp only [W19])
    have l5 := load_box (P := Tryz.prog) (t := 9) (k := 5) n2 rfl (by simp only [W19]) (by simp only [W19])
    simp only [fr, ↓RP, RS, Int.reduceBEq, Int.reduceBNe, Int.reduceLT, Int.reduceLE, Int.reduceAdd, Int.reduceSub, ↓reduceIte, Nat.reduceAdd, Nat.reduceMul, Nat.reduceSub, Nat.reduceLT, Nat.reduceLeDiff, Nat.reduceEqDiff, decide_true, decide_false, fieldAddrF, undE, tupE, W19, hd1, x1, x2, allocE, st, a3, l4, l5]
    refine CallK_use' (action46 3 (.inr rfl) _) fun v σ' ⟨q1, q2⟩ => ?_
    subst q1; subst q2
    simp only [↓RP, RS, Int.reduceBEq, Int.reduceBNe, Int.reduceLT, Int.reduceLE, Int.reduceAdd, Int.reduceSub, ↓reduceIte, Nat.reduceAdd, Nat.reduceMul, Nat.reduceSub, Nat.reduceLT, Nat.reduceLeDiff, Nat.reduceEqDiff, decide_true, decide_false, fieldAddrF, undE, tupE, W19, a3, l5]
    refine CallK_use' (text47 [102, 111, 117, 110, 100] (by decide) (by decide) _) fun v σ' ⟨q1, q2⟩ => ?_
    subst q1; subst q2
    simp only [↓RP, RS, Int.reduceBEq, Int.reduceBNe, Int.reduceLT, Int.reduceLE, Int.reduceAdd, Int.reduceSub, ↓reduceIte, Nat.reduceAdd, Nat.reduceMul, Nat.reduceSub, Nat.reduceLT, Nat.reduceLeDiff, Nat.reduceEqDiff, decide_true, decide_false, fieldAddrF, undE, tupE, W19, hw]
    exact seqK_n ⟨(1, _), ⟨Nat.le_refl _, kk.trans k2 fun _ _ h => h⟩, by simp, by kernel_rfl, rfl⟩
  · have hi1 : i = 1 := by omega
    subst hi1
    have hd1 : decide (((1 : Nat) : Int) < ((1 : Nat) : Int)) = false := rfl
    obtain ⟨a2, _, _, l6, l7⟩ := lA _ (kk.get g0 (fun h => h))
    simp only [fr, ↓RP, RS, Int.reduceBEq, Int.reduceBNe, Int.reduceLT, Int.reduceLE, Int.reduceAdd, Int.reduceSub, ↓reduceIte, Nat.reduceAdd, Nat.reduceMul, Nat.reduceSub, Nat.reduceLT, Nat.reduceLeDiff, Nat.reduceEqDiff, decide_true, decide_false, fieldAddrF, undE, tupE, W19, hd1, a2, l6]
    refine CallK_use' (action46 0 (.inl rfl) _) fun v σ' ⟨q1, q2⟩ => ?_
    subst q1; subst q2
    simp only [↓RP, RS, Int.reduceBEq, Int.reduceBNe, Int.reduceLT, Int.reduceLE, Int.reduceAdd, Int.reduceSub, ↓reduceIte, Nat.reduceAdd, Nat.reduceMul, Nat.reduceSub, Nat.reduceLT, Nat.reduceLeDiff, Nat.reduceEqDiff, decide_true, decide_false, fieldAddrF, undE, tupE, W19, l7]
    refine CallK_use' (trees48 w hg _) fun v σ2 ⟨q1, k3⟩ => ?_
    subst q1
    obtain ⟨a4, _, _, _, l8⟩ := lA _ (k3.get (kk.get g0 (fun h => h)) (fun h => h))
    simp only [↓RP, RS, Int.reduceBEq, Int.reduceBNe, Int.reduceLT, Int.reduceLE, Int.reduceAdd, Int.reduceSub, ↓reduceIte, Nat.reduceAdd, Nat.reduceMul, Nat.reduceSub, Nat.reduceLT, Nat.reduceLeDiff, Nat.reduceEqDiff, decide_true, decide_false, fieldAddrF, undE, tupE, W19, l8]
    refine CallK_use' (typed49 w _) fun v σ' ⟨q1, q2⟩ => ?_
    subst q1; subst q2
    simp only [↓RP, RS, Int.reduceBEq, Int.reduceBNe, Int.reduceLT, Int.reduceLE, Int.reduceAdd, Int.reduceSub, ↓reduceIte, Nat.reduceAdd, Nat.reduceMul, Nat.reduceSub, Nat.reduceLT, Nat.reduceLeDiff, Nat.reduceEqDiff, decide_true, decide_false, fieldAddrF, undE, tupE, W19]
    exact hK.ret (by rfl) ⟨by rfl, (k1.trans kk fun _ _ h => h).trans k3 fun _ _ h => h⟩

def factsL (ws : List W) : List D := [.nils, .int .i64 0, .int .i64 0, .int .i64 0, .int .i64 0, .int .i64 0, .int .i64 0, .int .i64 0, .int .i64 0, .bool false, .bool false, .lst 1 (ws.map .str)]
def runL (w : W) (ws : List W) (u : Int) : List D := ruleL w ++ factsL ws ++ [.int .i64 u, .int .i64 0]

theorem word52 {σ : List Ob} {o : Nat} {w0 : W} {u : Int} {ws : List W} (h : σ[o]? = some (.box ((runL w0 ws u).map .d))) (hl : ws.length ≤ 1048576) (w : W) : callA Tryz.prog 52 [.ptr o 0 0, .d (.str w)] σ fun r σ' => r = .d (.int .i64 (if w ∈ ws then 1 else 0)) ∧ σ' = σ := by
  refine w52.go fun K hK => ?_
  have a0 := alive_of h (by simp)
  have l0 := load_box (P := Tryz.prog) (t := 35) (k := 14) h rfl (by simp only [W52]) (by simp only [W52])
  simp only [e52, c52, p52, Tryz.f52, codeOf, comp, opsOf, stOf, cop, cstp, copAt, planFor, List.find?, List.find?_nil, Option.map_none, Option.getD_none, List.any_cons, List.any_nil, Stp.idx, Bool.or_false, Nat.reduceBEq, ↓RP, RS, Int.reduceBEq, Int.reduceBNe, Int.reduceLT, Int.reduceLE, Int.reduceAdd, Int.reduceSub, ↓reduceIte, Nat.reduceAdd, Nat.reduceMul, Nat.reduceSub, Nat.reduceLT, Nat.reduceLeDiff, Nat.reduceEqDiff, decide_true, decide_false, fieldAddrF, undE, tupE, W52, a0, l0, List.length_map]
  refine Loop_k [1, 11, 12, 13] (fun i : Nat => fr 0 21 [(1, .d (.str w)), (11, .d (.lst 1 (ws.map .str))), (12, .d (.int .i64 ws.length)), (13, .d (.int .i64 i))]) (fun _ => σ) (fun i => i ≤ ws.length ∧ w ∉ ws.take i) (fun i => ws.length - i) 0 (by kernel_rfl) rfl ⟨Nat.zero_le _, by simp⟩ fun i hI => ?_
  obtain ⟨hi, hn⟩ := hI
  have hw1 : IntKind.i64.wrap ((i : Int) + 1) = ((i + 1 : Nat) : Int) := by rw [IntWalk.i64_in _ (by omega)]; rfl
  by_cases hlt : i < ws.length
  · have hd : decide ((i : Int) < (ws.length : Int)) = true := by simpa using hlt
    have x1 : indexAddrF Tryz.prog 35 σ (.d (.lst 1 (ws.map .str))) (.d (.int .i64 (i : Int))) = some (.ipt [.str ws[i]]) := index_lst1 (P := Tryz.prog) (t := 35) (e := 9) (by simp only [W52]) (by simp only [W52]) (by simp [hlt]) rfl
    have x2 : loadF Tryz.prog 9 σ (.ipt [.str ws[i]]) = some (.d (.str ws[i])) := ld_ipt rfl (by simp only [W52]) (by simp only [W52])
    by_cases he : ws[i] = w
    · have e1 : strBin .eql ws[i] w = some (.bool true) := by simp [strBin, he]
      simp only [fr, ↓RP, RS, Int.reduceBEq, Int.reduceBNe, Int.reduceLT, Int.reduceLE, Int.reduceAdd, Int.reduceSub, ↓reduceIte, Nat.reduceAdd, Nat.reduceMul, Nat.reduceSub, Nat.reduceLT, Nat.reduceLeDiff, Nat.reduceEqDiff, decide_true, decide_false, fieldAddrF, undE, tupE, W52, hd, x1, x2, e1]
      refine hK.ret (r := .d (.int .i64 1)) (by rfl) ⟨?_, rfl⟩
      rw [if_pos (he ▸ List.getElem_mem hlt)]
    · have e1 : strBin .eql ws[i] w = some (.bool false) := by simp [strBin, he]
      simp only [fr, ↓RP, RS, Int.reduceBEq, Int.reduceBNe, Int.reduceLT, Int.reduceLE, Int.reduceAdd, Int.reduceSub, ↓reduceIte, Nat.reduceAdd, Nat.reduceMul, Nat.reduceSub, Nat.reduceLT, Nat.reduceLeDiff, Nat.reduceEqDiff, decide_true, decide_false, fieldAddrF, undE, tupE, W52, hd, x1, x2, e1, hw1]
      refine seqK_n ⟨i + 1, ⟨by omega, ?_⟩, by omega, by kernel_rfl, rfl⟩
      rw [List.take_succ_eq_append_getElem hlt]
      simp only [List.mem_append, List.mem_singleton, not_or]
      exact ⟨hn, fun e => he e.symm⟩
  · have hd : decide ((i : Int) < (ws.length : Int)) = false := by simpa using hlt
    have : ws.take i = ws := List.take_of_length_le (by omega)
    rw [this] at hn
    simp only [fr, ↓RP, RS, Int.reduceBEq, Int.reduceBNe, Int.reduceLT, Int.reduceLE, Int.reduceAdd, Int.reduceSub, ↓reduceIte, Nat.reduceAdd, Nat.reduceMul, Nat.reduceSub, Nat.reduceLT, Nat.reduceLeDiff, Nat.reduceEqDiff, decide_true, decide_false, fieldAddrF, undE, tupE, W52, hd]
    exact hK.ret (r := .d (.int .i64 0)) (by rfl) ⟨by rw [if_neg hn], rfl⟩
theorem BindV_of {P : Program} {n : Nat} {o : Option V} {v : V} {d : Option Tmp} {l : List CStp} {kk : List Fr} {s : List V} {σ : List Ob} {K : Ex → List V → List Ob → Prop} (h : o = some v) (k : BindV P n (some v) d l kk s σ K) : BindV P n o d l kk s σ K := h ▸ k
def A8 : List V := List.replicate 8 (.d (.int .i64 0))
theorem ix8 (i : Nat) (h : i < 8) : indexF Tryz.prog 135 (.agg A8) (.d (.int .i64 (i : Int))) = some (.d (.int .i64 0)) := by
  obtain rfl | rfl | rfl | rfl | rfl | rfl | rfl | rfl : i = 0 ∨ i = 1 ∨ i = 2 ∨ i = 3 ∨ i = 4 ∨ i = 5 ∨ i = 6 ∨ i = 7 := by omega
  all_goals kernel_rfl
theorem asc_geq {ws : List W} (ha : ws.Pairwise (fun a b => a < b)) {i : Nat} (h : i + 1 < ws.length) : strBin .geq (ws[i]'(by omega)) ws[i + 1] = some (.bool false) := by
  have := List.pairwise_iff_getElem.1 ha i (i + 1) (by omega) h (by omega)
  simp [strBin, bytesLess_eq, this]

theorem facts20 (ws : List W) (hl : ws.length ≤ 1048576) (ha : ws.Pairwise (fun a b => a < b)) (τ : List Ob) : callA Tryz.prog 20 [.agg ((factsL ws).map .d)] τ fun r σ' => r = .d (.bool true) ∧ Keeps (fun _ => False) τ σ' := by
  refine w20.go fun K hK => ?_
  obtain ⟨B, hB⟩ : ∃ B, B = τ.length := ⟨_, rfl⟩
  obtain ⟨σ1, hσ1⟩ : ∃ σ1, σ1 = τ ++ [Ob.box ((factsL ws).map .d)] := ⟨_, rfl⟩
  have g0 : σ1[B]? = some (.box ((factsL ws).map .d)) := by rw [hσ1, hB]; simp
  have k1 : Keeps (fun _ => False) τ σ1 := by rw [hσ1]; exact Keeps.app _ _ _
  have a0 := alive_of g0 (by simp)
  have i1 := load_box (P := Tryz.prog) (t := 3) (k := 1) g0 rfl (by simp only [W20]) (by simp only [W20])
  have i2 := load_box (P := Tryz.prog) (t := 3) (k := 2) g0 rfl (by simp only [W20]) (by simp only [W20])
  have i3 := load_box (P := Tryz.prog) (t := 3) (k := 3) g0 rfl (by simp only [W20]) (by simp only [W20])
  have i4 := load_box (P := Tryz.prog) (t := 3) (k := 4) g0 rfl (by simp only [W20]) (by simp only [W20])
  have i5 := load_box (P := Tryz.prog) (t := 3) (k := 5) g0 rfl (by simp only [W20]) (by simp only [W20])
  have i6 := load_box (P := Tryz.prog) (t := 3) (k := 6) g0 rfl (by simp only [W20]) (by simp only [W20])
  have i7 := load_box (P := Tryz.prog) (t := 3) (k := 7) g0 rfl (by simp only [W20]) (by simp only [W20])
  have i8 := load_box (P := Tryz.prog) (t := 3) (k := 8) g0 rfl (by simp only [W20]) (by simp only [W20])
  have l0 := load_box (P := Tryz.prog) (t := 37) (k := 0) g0 rfl (by simp only [W20]) (by simp only [W20])
  have l1 := load_box (P := Tryz.prog) (t := 35) (k := 11) g0 rfl (by simp only [W20]) (by simp only [W20])
  simp only [e20, c20, p20, Tryz.f20, codeOf, comp, opsOf, stOf, cop, cstp, copAt, planFor, List.find?, List.find?_nil, Option.map_none, Option.getD_none, List.any_cons, List.any_nil, Stp.idx, Bool.or_false, Nat.reduceBEq, ↓RP, RS, Int.reduceBEq, Int.reduceBNe, Int.reduceLT, Int.reduceLE, Int.reduceAdd, Int.reduceSub, ↓reduceIte, Nat.reduceAdd, Nat.reduceMul, Nat.reduceSub, Nat.reduceLT, Nat.reduceLeDiff, Nat.reduceEqDiff, decide_true, decide_false, fieldAddrF, undE, tupE, W20, boxE, cellsV, ← hσ1, ← hB, a0, i1, i2, i3, i4, i5, i6, i7, i8, l0, l1]
  refine BindV_of (v := .agg A8) (by kernel_rfl) ?_
  simp only [↓RP, RS, Int.reduceBEq, Int.reduceBNe, Int.reduceLT, Int.reduceLE, Int.reduceAdd, Int.reduceSub, ↓reduceIte, Nat.reduceAdd, Nat.reduceMul, Nat.reduceSub, Nat.reduceLT, Nat.reduceLeDiff, Nat.reduceEqDiff, decide_true, decide_false, fieldAddrF, undE, tupE, W20]
  refine Loop_k [1, 25, 26] (fun i : Nat => fr 0 90 [(1, .ptr B 0 0), (25, .agg A8), (26, .d (.int .i64 i))]) (fun _ => σ1) (fun i => i ≤ 8) (fun i => 8 - i) 0 (by kernel_rfl) rfl (Nat.zero_le _) fun i hi => ?_
  have hw1 : IntKind.i64.wrap ((i : Int) + 1) = ((i + 1 : Nat) : Int) := by rw [IntWalk.i64_in _ (by omega)]; rfl
  by_cases hlt : i < 8
  · have hd : decide ((i : Int) < 8) = true := by simp; omega
    have x1 := ix8 i hlt
    have e1 : decide ((0 : Int) < 0) = false := rfl
    have e2 : decide ((1125899906842624 : Int) < 0) = false := rfl
    simp only [fr, ↓RP, RS, Int.reduceBEq, Int.reduceBNe, Int.reduceLT, Int.reduceLE, Int.reduceAdd, Int.reduceSub, ↓reduceIte, Nat.reduceAdd, Nat.reduceMul, Nat.reduceSub, Nat.reduceLT, Nat.reduceLeDiff, Nat.reduceEqDiff, decide_true, decide_false, fieldAddrF, undE, tupE, W20, hd, x1, e1, e2, hw1]
    exact seqK_n ⟨i + 1, by omega, by omega, by kernel_rfl, rfl⟩
  have hd : decide ((i : Int) < 8) = false := by simp; omega
  simp only [fr, ↓RP, RS, Int.reduceBEq, Int.reduceBNe, Int.reduceLT, Int.reduceLE, Int.reduceAdd, Int.reduceSub, ↓reduceIte, Nat.reduceAdd, Nat.reduceMul, Nat.reduceSub, Nat.reduceLT, Nat.reduceLeDiff, Nat.reduceEqDiff, decide_true, decide_false, fieldAddrF, undE, tupE, W20, hd, a0, l0, l1]
  refine Loop_k [1, 37, 38, 39] (fun _ : Unit => fr 0 90 [(1, .ptr B 0 0), (37, .d .nils), (38, .d (.int .i64 0)), (39, .d (.int .i64 0))]) (fun _ => σ1) (fun _ => True) (fun _ => 0) () (by kernel_rfl) rfl trivial fun _ _ => ?_
  have hd : decide ((0 : Int) < 0) = false := rfl
  simp only [fr, ↓RP, RS, Int.reduceBEq, Int.reduceBNe, Int.reduceLT, Int.reduceLE, Int.reduceAdd, Int.reduceSub, ↓reduceIte, Nat.reduceAdd, Nat.reduceMul, Nat.reduceSub, Nat.reduceLT, Nat.reduceLeDiff, Nat.reduceEqDiff, decide_true, decide_false, fieldAddrF, undE, tupE, W20, hd, a0, l0, l1, List.length_map]
  refine Loop_k [1, 70, 71, 72] (fun i : Nat => fr 0 90 [(1, .ptr B 0 0), (70, .d (.lst 1 (ws.map .str))), (71, .d (.int .i64 ws.length)), (72, .d (.int .i64 i))]) (fun _ => σ1) (fun i => i ≤ ws.length) (fun i => ws.length - i) 0 (by kernel_rfl) rfl (Nat.zero_le _) fun i hi => ?_
  have hw1 : IntKind.i64.wrap ((i : Int) + 1) = ((i + 1 : Nat) : Int) := by rw [IntWalk.i64_in _ (by omega)]; rfl
  have ldA : ∀ (j : Nat) (h : j < ws.length), indexAddrF Tryz.prog 35 σ1 (.d (.lst 1 (ws.map .str))) (.d (.int .i64 (j : Int))) = some (.ipt [.str ws[j]]) ∧ loadF Tryz.prog 9 σ1 (.ipt [.str ws[j]]) = some (.d (.str ws[j])) := fun j h =>
    ⟨index_lst1 (P := Tryz.prog) (t := 35) (e := 9) (by simp only [W20]) (by simp only [W20]) (by simp [h]) rfl, ld_ipt rfl (by simp only [W20]) (by simp only [W20])⟩
  by_cases hlt : i < ws.length
  · have hd : decide ((i : Int) < (ws.length : Int)) = true := by simpa using hlt
    obtain ⟨x1, x2⟩ := ldA i hlt
    by_cases h0 : i = 0
    · subst h0
      have e1 : decide ((0 : Int) < ((0 : Nat) : Int)) = false := rfl
      simp only [fr, ↓RP, RS, Int.reduceBEq, Int.reduceBNe, Int.reduceLT, Int.reduceLE, Int.reduceAdd, Int.reduceSub, ↓reduceIte, Nat.reduceAdd, Nat.reduceMul, Nat.reduceSub, Nat.reduceLT, Nat.reduceLeDiff, Nat.reduceEqDiff, decide_true, decide_false, fieldAddrF, undE, tupE, W20, hd, x1, x2, e1, hw1]
      exact seqK_n ⟨1, by omega, by omega, by kernel_rfl, rfl⟩
    · obtain ⟨j, rfl⟩ : ∃ j, i = j + 1 := ⟨i - 1, by omega⟩
      obtain ⟨y1, y2⟩ := ldA j (by omega)
      have e1 : decide ((0 : Int) < ((j + 1 : Nat) : Int)) = true := decide_eq_true (by omega)
      have hw2 : IntKind.i64.wrap (((j + 1 : Nat) : Int) - 1) = (j : Int) := by rw [IntWalk.i64_in _ (by omega)]; omega
      have e2 := asc_geq ha (i := j) hlt
      simp only [fr, ↓RP, RS, Int.reduceBEq, Int.reduceBNe, Int.reduceLT, Int.reduceLE, Int.reduceAdd, Int.reduceSub, ↓reduceIte, Nat.reduceAdd, Nat.reduceMul, Nat.reduceSub, Nat.reduceLT, Nat.reduceLeDiff, Nat.reduceEqDiff, decide_true, decide_false, fieldAddrF, undE, tupE, W20, hd, x1, x2, e1, hw1, hw2, a0, l1, y1, y2, e2]
      exact seqK_n ⟨j + 2, by omega, by omega, by kernel_rfl, rfl⟩
  · have hd : decide ((i : Int) < (ws.length : Int)) = false := by simpa using hlt
    simp only [fr, ↓RP, RS, Int.reduceBEq, Int.reduceBNe, Int.reduceLT, Int.reduceLE, Int.reduceAdd, Int.reduceSub, ↓reduceIte, Nat.reduceAdd, Nat.reduceMul, Nat.reduceSub, Nat.reduceLT, Nat.reduceLeDiff, Nat.reduceEqDiff, decide_true, decide_false, fieldAddrF, undE, tupE, W20, hd]
    exact hK.ret (by rfl) ⟨by rfl, k1⟩

theorem step22 {σ : List Ob} {o : Nat} {w0 : W} {ws : List W} (h : σ[o]? = some (.box ((runL w0 ws 0).map .d))) : callA Tryz.prog 22 [.ptr o 0 0] σ fun r σ' => r = .tup [] ∧ σ' = σ.set o (.box ((runL w0 ws 1).map .d)) := by
  refine w22.go fun K hK => ?_
  have a0 := alive_of h (by simp)
  have l0 := load_box (P := Tryz.prog) (t := 3) (k := 15) h rfl (by simp only [W22]) (by simp only [W22])
  have st := store_box (P := Tryz.prog) (t := 3) (k := 15) (x := .d (.int .i64 1)) h rfl (by simp [runL, ruleL, factsL]) (by simp only [W22])
  have hw : IntKind.i64.wrap 1 = 1 := rfl
  have hd : ((0 : Int) == 10000) = false := rfl
  simp only [e22, c22, p22, Tryz.f22, codeOf, comp, opsOf, stOf, cop, cstp, copAt, planFor, List.find?, List.find?_nil, Option.map_none, Option.getD_none, List.any_cons, List.any_nil, Stp.idx, Bool.or_false, Nat.reduceBEq, ↓RP, RS, Int.reduceBEq, Int.reduceBNe, Int.reduceLT, Int.reduceLE, Int.reduceAdd, Int.reduceSub, ↓reduceIte, Nat.reduceAdd, Nat.reduceMul, Nat.reduceSub, Nat.reduceLT, Nat.reduceLeDiff, Nat.reduceEqDiff, decide_true, decide_false, fieldAddrF, undE, tupE, W22, a0, l0, hd, hw, st]
  exact hK.nrm (by rfl) ⟨rfl, rfl⟩

theorem eval23 {σ : List Ob} {o : Nat} {w0 : W} {u : Int} {ws : List W} (h : σ[o]? = some (.box ((runL w0 ws u).map .d))) (hl : ws.length ≤ 1048576) (w : W) : callA Tryz.prog 23 [.ptr o 0 0, .agg ((exprL w).map .d), .d .nils] σ fun r σ' => r = .d (.int .i64 (if w ∈ ws then 1 else 0)) ∧ Keeps (fun _ => False) σ σ' := by
  refine w23.go fun K hK => ?_
  obtain ⟨B, hB⟩ : ∃ B, B = σ.length := ⟨_, rfl⟩
  obtain ⟨σ1, hσ1⟩ : ∃ σ1, σ1 = σ ++ [Ob.box ((exprL w).map .d)] := ⟨_, rfl⟩
  have g0 : σ1[B]? = some (.box ((exprL w).map .d)) := by rw [hσ1, hB]; simp
  have k1 : Keeps (fun _ => False) σ σ1 := by rw [hσ1]; exact Keeps.app _ _ _
  have h1 := k1.get h (fun h => h)
  have a0 := alive_of g0 (by simp)
  have l0 := load_box (P := Tryz.prog) (t := 3) (k := 0) g0 rfl (by simp only [W23]) (by simp only [W23])
  have l2 := load_box (P := Tryz.prog) (t := 9) (k := 2) g0 rfl (by simp only [W23]) (by simp only [W23])
  simp only [e23, c23, p23, Tryz.f23, codeOf, comp, opsOf, stOf, cop, cstp, copAt, planFor, List.find?, List.find?_nil, Option.map_none, Option.getD_none, List.any_cons, List.any_nil, Stp.idx, Bool.or_false, Nat.reduceBEq, ↓RP, RS, Int.reduceBEq, Int.reduceBNe, Int.reduceLT, Int.reduceLE, Int.reduceAdd, Int.reduceSub, ↓reduceIte, Nat.reduceAdd, Nat.reduceMul, Nat.reduceSub, Nat.reduceLT, Nat.reduceLeDiff, Nat.reduceEqDiff, decide_true, decide_false, fieldAddrF, undE, tupE, W23, boxE, cellsV, ← hσ1, ← hB, a0, l0, l2]
  refine CallK_use' (word52 h1 hl w) fun v σ' ⟨q1, q2⟩ => ?_
  subst q1; subst q2
  simp only [↓RP, RS, Int.reduceBEq, Int.reduceBNe, Int.reduceLT, Int.reduceLE, Int.reduceAdd, Int.reduceSub, ↓reduceIte, Nat.reduceAdd, Nat.reduceMul, Nat.reduceSub, Nat.reduceLT, Nat.reduceLeDiff, Nat.reduceEqDiff, decide_true, decide_false, fieldAddrF, undE, tupE, W23]
  exact hK.ret (by rfl) ⟨rfl, k1⟩

theorem quiet21 : QuietG Tryz.prog 21 2 := quietB_ok (by kernel_rfl)

def outL (a : Int) (r : W) : List V := [.d (.int .i64 a), .d (.str r), .d (.int .i64 1), .d (.int .i64 0)]
def out0 : List V := [.d (.int .i64 0), .d (.str []), .d (.int .i64 0), .d (.int .i64 0)]

theorem run7 (w : W) (hg : GoodW w) (ws : List W) (hl : ws.length ≤ 1048576) (ha : ws.Pairwise (fun a b => a < b)) (τ : List Ob) : callA Tryz.prog 7 [.agg ((ruleL w).map .d), .agg ((factsL ws).map .d)] τ fun r σ' => r = .agg (if w ∈ ws then outL 3 [102, 111, 117, 110, 100] else outL 0 []) ∧ Keeps (fun _ => False) τ σ' := by
  refine w7.go fun K hK => ?_
  obtain ⟨B, hB⟩ : ∃ B, B = τ.length := ⟨_, rfl⟩
  obtain ⟨σ1, hσ1⟩ : ∃ σ1, σ1 = τ ++ [Ob.box ((ruleL w).map .d)] ++ [Ob.box ((factsL ws).map .d)] ++ [Ob.box out0] := ⟨_, rfl⟩
  have gr : σ1[B]? = some (.box ((ruleL w).map .d)) := by rw [hσ1, hB]; simp
  have gf : σ1[B + 1]? = some (.box ((factsL ws).map .d)) := by rw [hσ1, hB]; simp
  have go : σ1[B + 1 + 1]? = some (.box out0) := by rw [hσ1, hB, List.getElem?_append_right (by simp)]; simp
  have k1 : Keeps (fun _ => False) τ σ1 := by rw [hσ1]; exact ((Keeps.app _ _ _).trans (Keeps.app _ _ _) fun _ _ h => h).trans (Keeps.app _ _ _) fun _ _ h => h
  have hσ1' := hσ1
  rw [out0] at hσ1'
  have lA : ∀ (σ : List Ob), Keeps (fun _ => False) σ1 σ → loadF Tryz.prog 28 σ (.ptr B 0 0) = some (.agg ((ruleL w).map .d)) ∧ loadF Tryz.prog 39 σ (.ptr (B + 1) 0 0) = some (.agg ((factsL ws).map .d)) := fun σ g =>
    ⟨load_all (P := Tryz.prog) (t := 28) (g.get gr (fun h => h)) (by simp [ruleL, W7]) (by simp only [W7]) (by simp [W7]), load_all (P := Tryz.prog) (t := 39) (g.get gf (fun h => h)) (by simp [factsL, W7]) (by simp only [W7]) (by simp [W7])⟩
  obtain ⟨l0, _⟩ := lA _ (Keeps.refl _ _)
  simp only [e7, c7, p7, Tryz.f7, codeOf, comp, opsOf, stOf, cop, cstp, copAt, planFor, List.find?, List.find?_nil, Option.map_none, Option.getD_none, List.any_cons, List.any_nil, Stp.idx, Bool.or_false, Nat.reduceBEq, ↓RP, RS, Int.reduceBEq, Int.reduceBNe, Int.reduceLT, Int.reduceLE, Int.reduceAdd, Int.reduceSub, ↓reduceIte, Nat.reduceAdd, Nat.reduceMul, Nat.reduceSub, Nat.reduceLT, Nat.reduceLeDiff, Nat.reduceEqDiff, decide_true, decide_false, fieldAddrF, undE, tupE, W7, boxE, cellsV, allocE, List.length_append, List.length_cons, List.length_nil, ← hσ1', ← hB, l0]
  refine CallK_use' (right19 w hg _) fun v σ2 ⟨q1, k2⟩ => ?_
  subst q1
  obtain ⟨_, l1⟩ := lA _ k2
  simp only [↓RP, RS, Int.reduceBEq, Int.reduceBNe, Int.reduceLT, Int.reduceLE, Int.reduceAdd, Int.reduceSub, ↓reduceIte, Nat.reduceAdd, Nat.reduceMul, Nat.reduceSub, Nat.reduceLT, Nat.reduceLeDiff, Nat.reduceEqDiff, decide_true, decide_false, fieldAddrF, undE, tupE, W7, l1]
  refine CallK_use' (facts20 ws hl ha _) fun v σ3 ⟨q1, k3⟩ => ?_
  subst q1
  have k23 := k2.trans k3 fun _ _ h => h
  obtain ⟨m0, m1⟩ := lA _ k23
  simp only [↓RP, RS, Int.reduceBEq, Int.reduceBNe, Int.reduceLT, Int.reduceLE, Int.reduceAdd, Int.reduceSub, ↓reduceIte, Nat.reduceAdd, Nat.reduceMul, Nat.reduceSub, Nat.reduceLT, Nat.reduceLeDiff, Nat.reduceEqDiff, decide_true, decide_false, fieldAddrF, undE, tupE, W7, m0, m1]
  refine BindV_of (v := .agg ((runL w ws 0).map .d)) (by kernel_rfl) ?_
  simp only [↓RP, RS, Int.reduceBEq, Int.reduceBNe, Int.reduceLT, Int.reduceLE, Int.reduceAdd, Int.reduceSub, ↓reduceIte, Nat.reduceAdd, Nat.reduceMul, Nat.reduceSub, Nat.reduceLT, Nat.reduceLeDiff, Nat.reduceEqDiff, decide_true, decide_false, fieldAddrF, undE, tupE, W7, boxE, cellsV, allocE]
  obtain ⟨C, hC⟩ : ∃ C, C = σ3.length := ⟨_, rfl⟩
  have hBC : B + 1 + 1 < C := by rw [hC]; exact lt_of_get (k23.get go (fun h => h))
  have n1 : (σ3 ++ [Ob.box ((runL w ws 0).map V.d)] ++ [Ob.box [V.d D.nilp]])[C + 1]? = some (.box [V.d D.nilp]) := by rw [hC, List.getElem?_append_right (by simp)]; simp
  have n2 : (σ3 ++ [Ob.box ((runL w ws 0).map V.d)] ++ [Ob.box [V.d D.nilp]])[C]? = some (.box ((runL w ws 0).map V.d)) := by rw [hC]; simp
  have st := store_box (P := Tryz.prog) (t := 62) (k := 0) (x := .ptr C 0 0) n1 (one_ptr (alive_of n2 (by simp))) (by simp) (by simp only [W7])
  have hcl : (σ3 ++ [Ob.box ((runL w ws 0).map V.d)]).length = C + 1 := by rw [hC]; simp
  obtain ⟨σ5, hσ5⟩ : ∃ σ5, σ5 = σ3 ++ [Ob.box ((runL w ws 0).map V.d)] ++ [Ob.box [V.ptr C 0 0]] := ⟨_, rfl⟩
  rw [List.set_append_right _ _ (by rw [hcl]; exact Nat.le_refl _), hcl, Nat.sub_self, List.set_cons_zero, List.set_cons_zero, ← hσ5] at st
  simp only [↓RP, RS, Int.reduceBEq, Int.reduceBNe, Int.reduceLT, Int.reduceLE, Int.reduceAdd, Int.reduceSub, ↓reduceIte, Nat.reduceAdd, Nat.reduceMul, Nat.reduceSub, Nat.reduceLT, Nat.reduceLeDiff, Nat.reduceEqDiff, decide_true, decide_false, fieldAddrF, undE, tupE, W7, hcl, ← hC, st]
  have k35 : Keeps (fun _ => False) σ3 σ5 := by rw [hσ5]; exact (Keeps.app _ _ _).trans (Keeps.app _ _ _) fun _ _ h => h
  have p0 : σ5[C + 1]? = some (.box [V.ptr C 0 0]) := by rw [hσ5, hC, List.getElem?_append_right (by simp)]; simp
  have q0 : σ5[C]? = some (.box ((runL w ws 0).map V.d)) := by rw [hσ5, hC]; simp
  have lB : ∀ (σ : List Ob), Keeps (fun o => o = C) σ5 σ → alive σ B = true ∧ loadF Tryz.prog 26 σ (.ptr B 0 1) = some (.d (.lst 6 [.agg (clL w)])) ∧ loadF Tryz.prog 3 σ (.ptr B 0 2) = some (.d (.int .i64 0)) ∧ loadF Tryz.prog 62 σ (.ptr (C + 1) 0 0) = some (.ptr C 0 0) ∧ σ[B + 1 + 1]? = some (.box out0) := fun σ g => by
    have e1 := g.get (k35.get (k23.get gr (fun h => h)) (fun h => h)) (show ¬ B = C by omega)
    have e2 := g.get p0 (show ¬ C + 1 = C by omega)
    have e3 := g.get (k35.get (k23.get go (fun h => h)) (fun h => h)) (show ¬ B + 1 + 1 = C by omega)
    exact ⟨alive_of e1 (by simp), load_box (P := Tryz.prog) (t := 26) (k := 1) e1 rfl (by simp only [W7]) (by simp only [W7]), load_box (P := Tryz.prog) (t := 3) (k := 2) e1 rfl (by simp only [W7]) (by simp only [W7]), load_box (P := Tryz.prog) (t := 62) (k := 0) e2 rfl (by simp only [W7]) (by simp only [W7]), e3⟩
  obtain ⟨aB, lc, _, lp, _⟩ := lB _ (Keeps.refl _ _)
  simp only [↓RP, RS, Int.reduceBEq, Int.reduceBNe, Int.reduceLT, Int.reduceLE, Int.reduceAdd, Int.reduceSub, ↓reduceIte, Nat.reduceAdd, Nat.reduceMul, Nat.reduceSub, Nat.reduceLT, Nat.reduceLeDiff, Nat.reduceEqDiff, decide_true, decide_false, fieldAddrF, undE, tupE, W7, aB, lc]
  refine ⟨quiet21, ?_⟩
  refine Loop_k [2, 4, 5, 23, 24, 25] (fun y : Nat × List Ob => fr 0 53 [(2, .ptr B 0 0), (4, .ptr (B + 1 + 1) 0 0), (5, .ptr (C + 1) 0 0), (23, .d (.lst 6 [.agg (clL w)])), (24, .d (.int .i64 (1 : Nat))), (25, .d (.int .i64 y.1))]) (fun y => y.2) (fun y => Keeps (fun o => o = C) σ5 y.2 ∧ ((y.1 = 0 ∧ y.2[C]? = some (.box ((runL w ws 0).map V.d))) ∨ (y.1 = 1 ∧ w ∉ ws ∧ y.2[C]? = some (.box ((runL w ws 1).map V.d))))) (fun y => 1 - y.1) (0, σ5) (by kernel_rfl) rfl ⟨Keeps.refl _ _, .inl ⟨rfl, q0⟩⟩ fun ⟨i, σ⟩ hI => ?_
  obtain ⟨kk, hI⟩ := hI
  simp only at hI kk ⊢
  obtain ⟨b0, b1, b2, b3, b4⟩ := lB _ kk
  have kend : ∀ σ', Keeps (fun o => o = C) σ5 σ' → ∀ x, Keeps (fun _ => False) τ (σ'.set (B + 1 + 1) x) := fun σ' h x => by
    refine ⟨by have := k1.1; have := k23.1; have := k35.1; have := h.1; simp only [List.length_set]; omega, fun o ho _ => ?_⟩
    rw [List.getElem?_set_ne (by omega), h.2 o (by have := k1.1; have := k23.1; have := k35.1; omega) (show ¬ o = C by have := k1.1; have := k23.1; omega), k35.2 o (by have := k1.1; have := k23.1; omega) (fun h => h), k23.2 o (by have := k1.1; omega) (fun h => h), k1.2 o ho (fun h => h)]
  rcases hI with ⟨rfl, q1⟩ | ⟨rfl, hw, q1⟩
  · have hd1 : decide (((0 : Nat) : Int) < ((1 : Nat) : Int)) = true := rfl
    have hw : IntKind.i64.wrap (((0 : Nat) : Int) + 1) = ((1 : Nat) : Int) := rfl
    have x1 : indexAddrF Tryz.prog 26 σ (.d (.lst 6 [.agg (clL w)])) (.d (.int .i64 ((0 : Nat) : Int))) = some (.ipt (clL w)) := index_lst (P := Tryz.prog) (t := 26) (e := 71) (kd := .i64) (by simp only [W7]) (by simp only [W7]) rfl rfl
    have x2 : loadF Tryz.prog 71 σ (.ipt (clL w)) = some (.d (.agg (clL w))) := by
      simp only [loadF, takeD, W7, if_true]; rfl
    have hzl : z71.length = 6 := rfl
    have n1 : (σ ++ [Ob.box z71])[σ.length]? = some (.box z71) := by simp
    have st := store_aggd (P := Tryz.prog) (t := 71) (k := 0) n1 (xs := clL w) rfl (by simp [clL, hzl]) (by simp [clL, W7]) (by simp [W7])
    rw [setAt_all (by simp [clL, hzl]), List.set_append_right _ _ (Nat.le_refl _), Nat.sub_self, List.set_cons_zero] at st
    have n2 : (σ ++ [Ob.box ((clL w).map .d)])[σ.length]? = some (.box ((clL w).map .d)) := by simp
    have k2 : Keeps (fun o => o = C) σ (σ ++ [Ob.box ((clL w).map .d)]) := Keeps.app _ _ _
    have kk2 := kk.trans k2 fun _ _ h => h
    obtain ⟨c0, c1, c2, c3, c4⟩ := lB _ kk2
    simp only [fr, ↓RP, RS, Int.reduceBEq, Int.reduceBNe, Int.reduceLT, Int.reduceLE, Int.reduceAdd, Int.reduceSub, ↓reduceIte, Nat.reduceAdd, Nat.reduceMul, Nat.reduceSub, Nat.reduceLT, Nat.reduceLeDiff, Nat.reduceEqDiff, decide_true, decide_false, fieldAddrF, undE, tupE, W7, hd1, x1, x2, allocE, st, c3]
    have hCl : C < σ.length := lt_of_get q1
    refine CallK_use' (step22 (w0 := w) (ws := ws) (o := C) (app_get q1 _)) fun v σ' ⟨q2, q3⟩ => ?_
    subst q2; subst q3
    have k3 : Keeps (fun o => o = C) (σ ++ [Ob.box ((clL w).map .d)]) ((σ ++ [Ob.box ((clL w).map .d)]).set C (.box ((runL w ws 1).map .d))) := Keeps.set _ _ rfl
    have n3 := k3.get n2 (show ¬ σ.length = C by omega)
    have q3 : ((σ ++ [Ob.box ((clL w).map .d)]).set C (.box ((runL w ws 1).map .d)))[C]? = some (.box ((runL w ws 1).map .d)) := List.getElem?_set_self (by simp; omega)
    have kk3 := kk2.trans k3 fun _ _ h => h
    obtain ⟨σ6, hσ6⟩ : ∃ σ6, σ6 = ((σ ++ [Ob.box ((clL w).map .d)]).set C (.box ((runL w ws 1).map .d))) := ⟨_, rfl⟩
    rw [← hσ6] at n3 q3 kk3 ⊢
    obtain ⟨d0, d1, d2, d3, d4⟩ := lB _ kk3
    have a3 := alive_of n3 (by simp)
    have l4 := load_agg (P := Tryz.prog) (t := 69) (k := 0) n3 (by simp [clL, W7]) (by simp only [W7]) (by simp [W7])
    rw [show szOf Tryz.prog 69 = 4 by simp only [W7], show (((clL w).map V.d).drop 0).take 4 = (exprL w).map .d from rfl] at l4
    simp only [↓RP, RS, Int.reduceBEq, Int.reduceBNe, Int.reduceLT, Int.reduceLE, Int.reduceAdd, Int.reduceSub, ↓reduceIte, Nat.reduceAdd, Nat.reduceMul, Nat.reduceSub, Nat.reduceLT, Nat.reduceLeDiff, Nat.reduceEqDiff, decide_true, decide_false, fieldAddrF, undE, tupE, W7, d3, a3, l4]
    refine CallK_use' (eval23 q3 hl w) fun v σ7 ⟨q4, k4⟩ => ?_
    subst q4
    have kk4 := kk3.trans k4 fun _ _ h => h.elim
    obtain ⟨f0, f1, f2, f3, f4⟩ := lB _ kk4
    have n4 := k4.get n3 (fun h => h)
    have q4 := k4.get q3 (fun h => h)
    by_cases hm : w ∈ ws
    · have e1 : ((1 : Int) == 0) = false := rfl
      have a4 := alive_of n4 (by simp)
      have aC := alive_of q4 (by simp)
      have g4 := load_box (P := Tryz.prog) (t := 3) (k := 4) n4 rfl (by simp only [W7]) (by simp only [W7])
      have g5 := load_box (P := Tryz.prog) (t := 9) (k := 5) n4 rfl (by simp only [W7]) (by simp only [W7])
      have lu := load_box (P := Tryz.prog) (t := 3) (k := 15) q4 rfl (by simp only [W7]) (by simp only [W7])
      have st := store_agg (P := Tryz.prog) (t := 33) (k := 0) f4 (xs := outL 3 [102, 111, 117, 110, 100]) rfl (by simp [outL, out0]) (by simp [outL, W7]) (by simp [W7])
      rw [setAt_all (by simp [outL, out0])] at st
      rw [if_pos hm]
      simp only [↓RP, RS, Int.reduceBEq, Int.reduceBNe, Int.reduceLT, Int.reduceLE, Int.reduceAdd, Int.reduceSub, ↓reduceIte, Nat.reduceAdd, Nat.reduceMul, Nat.reduceSub, Nat.reduceLT, Nat.reduceLeDiff, Nat.reduceEqDiff, decide_true, decide_false, fieldAddrF, undE, tupE, W7, e1, a4, aC, g4, g5, lu, f3]
      refine BindV_of (v := .agg (outL 3 [102, 111, 117, 110, 100])) (by kernel_rfl) ?_
      simp only [↓RP, RS, Int.reduceBEq, Int.reduceBNe, Int.reduceLT, Int.reduceLE, Int.reduceAdd, Int.reduceSub, ↓reduceIte, Nat.reduceAdd, Nat.reduceMul, Nat.reduceSub, Nat.reduceLT, Nat.reduceLeDiff, Nat.reduceEqDiff, decide_true, decide_false, fieldAddrF, undE, tupE, W7, st]
      have lr := load_all (P := Tryz.prog) (t := 33) (σ := σ7.set (B + 1 + 1) (.box (outL 3 [102, 111, 117, 110, 100]))) (o := B + 1 + 1) (cs := outL 3 [102, 111, 117, 110, 100]) (List.getElem?_set_self (lt_of_get f4)) (by simp [outL, W7]) (by simp only [W7]) (by simp [W7])
      exact hK.ret (r := .agg (outL 3 [102, 111, 117, 110, 100])) (by simp only [resF, resAll, resOne, e7, RS, lr]) ⟨by rw [if_pos hm], kend _ kk4 _⟩
    · have e1 : ((0 : Int) == 0) = true := rfl
      rw [if_neg hm]
      simp only [↓RP, RS, Int.reduceBEq, Int.reduceBNe, Int.reduceLT, Int.reduceLE, Int.reduceAdd, Int.reduceSub, ↓reduceIte, Nat.reduceAdd, Nat.reduceMul, Nat.reduceSub, Nat.reduceLT, Nat.reduceLeDiff, Nat.reduceEqDiff, decide_true, decide_false, fieldAddrF, undE, tupE, W7, e1, hw]
      exact seqK_n ⟨(1, σ7), ⟨kk4, .inr ⟨rfl, hm, q4⟩⟩, by simp, by kernel_rfl, rfl⟩
  · have hd1 : decide (((1 : Nat) : Int) < ((1 : Nat) : Int)) = false := rfl
    have aC := alive_of q1 (by simp)
    have lu := load_box (P := Tryz.prog) (t := 3) (k := 15) q1 rfl (by simp only [W7]) (by simp only [W7])
    have st := store_agg (P := Tryz.prog) (t := 33) (k := 0) b4 (xs := outL 0 []) rfl (by simp [outL, out0]) (by simp [outL, W7]) (by simp [W7])
    rw [setAt_all (by simp [outL, out0])] at st
    simp only [fr, ↓RP, RS, Int.reduceBEq, Int.reduceBNe, Int.reduceLT, Int.reduceLE, Int.reduceAdd, Int.reduceSub, ↓reduceIte, Nat.reduceAdd, Nat.reduceMul, Nat.reduceSub, Nat.reduceLT, Nat.reduceLeDiff, Nat.reduceEqDiff, decide_true, decide_false, fieldAddrF, undE, tupE, W7, hd1, b0, b2, b3, aC, lu]
    refine BindV_of (v := .agg (outL 0 [])) (by kernel_rfl) ?_
    simp only [↓RP, RS, Int.reduceBEq, Int.reduceBNe, Int.reduceLT, Int.reduceLE, Int.reduceAdd, Int.reduceSub, ↓reduceIte, Nat.reduceAdd, Nat.reduceMul, Nat.reduceSub, Nat.reduceLT, Nat.reduceLeDiff, Nat.reduceEqDiff, decide_true, decide_false, fieldAddrF, undE, tupE, W7, st]
    have lr := load_all (P := Tryz.prog) (t := 33) (σ := σ.set (B + 1 + 1) (.box (outL 0 []))) (o := B + 1 + 1) (cs := outL 0 []) (List.getElem?_set_self (lt_of_get b4)) (by simp [outL, W7]) (by simp only [W7]) (by simp [W7])
    exact hK.ret (r := .agg (outL 0 [])) (by simp only [resF, resAll, resOne, e7, RS, lr]) ⟨by rw [if_neg hw], kend _ kk _⟩
end Go.Proofs.YtchgfpehcjomeaaGreatDoor.Am
