/- Walks of the rule parser over the tokens of the rule. -/
import Derived.Test.YtchgfpehcjomeaaGreatDoorLc
import Derived.Test.YtchgfpehcjomeaaGreatDoorAmZb
set_option linter.unusedSimpArgs false
set_option linter.unusedVariables false
set_option maxRecDepth 100000
set_option maxHeartbeats 2000000
namespace Go.Proofs.YtchgfpehcjomeaaGreatDoor.Am
open Go Go.Proofs

def clauseW (w : W) : D := .agg [.int .i64 5, .int .i64 0, .str w, .int .i64 5, .nils, .int .i64 3, .str [102, 111, 117, 110, 100]]
def parSt (w : W) (n : Int) (k : Int) : Ob := .box [.d (.lst 4 (toksW w n)), .d (.int .i64 k)]
def srcSt (w : W) : List Ob := [.box [.d .nils, .sl 1 0 1, .d (.int .i64 0)], .arr 7 false [clauseW w]]
def srcSt1 (w : W) : List Ob := [.box [.d .nils, .sl 2 0 1, .d (.int .i64 0)], .arr 7 false [clauseW w]]

def nat00 : Nat' := fun _ _ _ => none
theorem nat00_ok : CallOk Tryz.prog nat00 := fun f args σ r σ' h => by cases h

theorem rule14 (w : W) (n : Int) : callA Tryz.prog 14 [.ptr 0 0 0] [parSt w n 0] fun r σ' => r = .ptr 1 0 0 ∧ σ' = parSt w n 10 :: srcSt1 w := run_okK nat00_ok tabOk 60 (by kernel_rfl)
theorem limit15 (w : W) : callA Tryz.prog 15 [.ptr 0 0 0] (srcSt w) fun r σ' => r = .tup [] ∧ σ' = srcSt w := run_okK nat00_ok tabOk 60 (by kernel_rfl)
theorem resolve16 (w : W) : callA Tryz.prog 16 [.ptr 0 0 0] (srcSt w) fun r σ' => r = .tup [] ∧ σ' = srcSt w := run_okK nat00_ok tabOk 60 (by kernel_rfl)
theorem check17 (w : W) : callA Tryz.prog 17 [.ptr 0 0 0] (srcSt w) fun r σ' => r = .tup [] ∧ σ' = srcSt w := run_okK nat00_ok tabOk 60 (by kernel_rfl)
def ruleL (w : W) : List D := [.nils, .lst 6 [.agg [.int .i64 5, .int .i64 0, .str w, .nils, .int .i64 3, .str [102, 111, 117, 110, 100]]], .int .i64 0]
theorem rule18 (w : W) : callA Tryz.prog 18 [.ptr 0 0 0] (srcSt w) fun r σ' => r = .agg ((ruleL w).map .d) ∧ σ' = srcSt w := run_okK nat00_ok tabOk 60 (by kernel_rfl)
theorem quiet13 : QuietG Tryz.prog 13 3 := quietB_ok (by kernel_rfl)

def st0 : List Ob := [Ob.box [.d .nils, .d .nils, .d (.int .i64 0)], Ob.box [.d (.int .i64 0)], Ob.box [.d (.int .i64 0)]]
def st6 (w : W) (n : Int) : List Ob := st0 ++ [parSt w n 10, .box [.d .nils, .sl 5 0 1, .d (.int .i64 0)], .arr 7 false [clauseW w]]

theorem rule14f (w : W) (n : Int) : callA Tryz.prog 14 [.ptr 3 0 0] (st0 ++ [parSt w n 0]) fun r σ' => r = .ptr 4 0 0 ∧ σ' = st6 w n := by
  refine callA_mono (callA_frame (rule14 w n) [3] (st0 ++ [parSt w n 0]) (by simp) rfl (fun i hi => by simp at hi; subst hi; show 3 < 4; decide) (fun j i hj => by
    cases j with
    | zero => simp at hj; subst hj; rfl
    | succ j => simp at hj)) fun r σ' q => ?_
  obtain ⟨r0, σ0, ⟨rfl, rfl⟩, rfl, rfl⟩ := q
  exact ⟨rfl, rfl⟩

theorem src_frame {f : FuncId} {w : W} {n : Int} {v : V} (h : callA Tryz.prog f [.ptr 0 0 0] (srcSt w) fun r σ' => r = v ∧ σ' = srcSt w) (hv : embV [4, 5] 6 v = v) : callA Tryz.prog f [.ptr 4 0 0] (st6 w n) fun r σ' => r = v ∧ σ' = st6 w n := by
  refine callA_mono (callA_frame h [4, 5] (st6 w n) (by simp) rfl (fun i hi => by simp at hi; rcases hi with rfl | rfl <;> (show _ < 6; decide)) (fun j i hj => by
    match j, hj with
    | 0, hj => simp at hj; subst hj; rfl
    | 1, hj => simp at hj; subst hj; rfl
    | j + 2, hj => simp at hj)) fun r σ' q => ?_
  obtain ⟨r0, σ0, ⟨rfl, rfl⟩, rfl, rfl⟩ := q
  exact ⟨hv, rfl⟩

theorem parse6 (w : W) (hw : w.length ≤ 24) (hb : ∀ b ∈ w, 97 ≤ b.toNat ∧ b.toNat ≤ 122) : callA Tryz.prog 6 [.d (.str (srcW w))] [] fun r σ' => r = .tup [.agg ((ruleL w).map .d), .d (.int .i64 0), .d (.int .i64 0)] ∧ σ' = [] := by
  refine w6.go fun K hK => ?_
  simp only [e6, c6, p6, Tryz.f6, codeOf, comp, opsOf, stOf, cop, cstp, copAt, planFor, List.find?, List.find?_nil, Option.map_none, Option.getD_none, List.any_cons, List.any_nil, Stp.idx, Bool.or_false, Nat.reduceBEq, ↓RP, RS, Int.reduceBEq, Int.reduceBNe, Int.reduceLT, Int.reduceLE, Int.reduceAdd, Int.reduceSub, ↓reduceIte, Nat.reduceAdd, Nat.reduceMul, Nat.reduceSub, Nat.reduceLT, Nat.reduceLeDiff, Nat.reduceEqDiff, decide_true, decide_false, fieldAddrF, undE, tupE, W6, allocE]
  refine CallK_use' (scanW12 w hw hb _) fun v σ' ⟨q1, q2⟩ => ?_
  subst q1; subst q2
  obtain ⟨B0, hB0⟩ : ∃ B0 : List Ob, B0 = [Ob.box [.d .nils, .d .nils, .d (.int .i64 0)], Ob.box [.d (.int .i64 0)], Ob.box [.d (.int .i64 0)]] := ⟨_, rfl⟩
  have st1 : storeF Tryz.prog 29 B0 (.ptr 1 0 0) (.d (.int .i64 0)) = some B0 := by rw [hB0]; kernel_rfl
  have st2 : storeF Tryz.prog 3 B0 (.ptr 2 0 0) (.d (.int .i64 0)) = some B0 := by rw [hB0]; kernel_rfl
  have ld1 : loadF Tryz.prog 29 B0 (.ptr 1 0 0) = some (.d (.int .i64 0)) := by rw [hB0]; kernel_rfl
  have bl : B0.length = 3 := by rw [hB0]; rfl
  rw [← hB0]
  have bf : ∀ sl, get sl (.tmp 20) = .d (.lst 4 (toksW w w.length)) → buildF Tryz.prog 56 B0 sl [(0, .tmp 20)] = some (.agg [.d (.lst 4 (toksW w w.length)), .d (.int .i64 0)]) := fun sl hsl => by
    simp only [buildF, W6, fillV, hsl, cellsV]
    rfl
  simp only [↓RP, RS, Int.reduceBEq, Int.reduceBNe, Int.reduceLT, Int.reduceLE, Int.reduceAdd, Int.reduceSub, ↓reduceIte, Nat.reduceAdd, Nat.reduceMul, Nat.reduceSub, Nat.reduceLT, Nat.reduceLeDiff, Nat.reduceEqDiff, decide_true, decide_false, fieldAddrF, undE, tupE, W6, extractF, st1, st2, ld1, bf, boxE, cellsV, bl]
  refine ⟨quiet13, ?_⟩
  subst hB0
  refine CallK_use' (rule14f w w.length) fun v σ' ⟨q1, q2⟩ => ?_
  subst q1; subst q2
  simp only [↓RP, RS, Int.reduceBEq, Int.reduceBNe, Int.reduceLT, Int.reduceLE, Int.reduceAdd, Int.reduceSub, ↓reduceIte, Nat.reduceAdd, Nat.reduceMul, Nat.reduceSub, Nat.reduceLT, Nat.reduceLeDiff, Nat.reduceEqDiff, decide_true, decide_false, fieldAddrF, undE, tupE, W6]
  refine CallK_use' (src_frame (limit15 w) rfl) fun v σ' ⟨q1, q2⟩ => ?_
  subst q1; subst q2
  simp only [↓RP, RS, Int.reduceBEq, Int.reduceBNe, Int.reduceLT, Int.reduceLE, Int.reduceAdd, Int.reduceSub, ↓reduceIte, Nat.reduceAdd, Nat.reduceMul, Nat.reduceSub, Nat.reduceLT, Nat.reduceLeDiff, Nat.reduceEqDiff, decide_true, decide_false, fieldAddrF, undE, tupE, W6]
  refine CallK_use' (src_frame (resolve16 w) rfl) fun v σ' ⟨q1, q2⟩ => ?_
  subst q1; subst q2
  simp only [↓RP, RS, Int.reduceBEq, Int.reduceBNe, Int.reduceLT, Int.reduceLE, Int.reduceAdd, Int.reduceSub, ↓reduceIte, Nat.reduceAdd, Nat.reduceMul, Nat.reduceSub, Nat.reduceLT, Nat.reduceLeDiff, Nat.reduceEqDiff, decide_true, decide_false, fieldAddrF, undE, tupE, W6]
  refine CallK_use' (src_frame (check17 w) rfl) fun v σ' ⟨q1, q2⟩ => ?_
  subst q1; subst q2
  simp only [↓RP, RS, Int.reduceBEq, Int.reduceBNe, Int.reduceLT, Int.reduceLE, Int.reduceAdd, Int.reduceSub, ↓reduceIte, Nat.reduceAdd, Nat.reduceMul, Nat.reduceSub, Nat.reduceLT, Nat.reduceLeDiff, Nat.reduceEqDiff, decide_true, decide_false, fieldAddrF, undE, tupE, W6]
  refine CallK_use' (src_frame (rule18 w) rfl) fun v σ' ⟨q1, q2⟩ => ?_
  subst q1; subst q2
  obtain ⟨T, hT⟩ : ∃ T : List Ob, T = Ob.box ((ruleL w).map .d) :: (st6 w w.length).tail := ⟨_, rfl⟩
  have sa : storeF Tryz.prog 28 (st6 w w.length) (.ptr 0 0 0) (.agg ((ruleL w).map .d)) = some T := by rw [hT]; kernel_rfl
  have sb : storeF Tryz.prog 29 T (.ptr 1 0 0) (.d (.int .i64 0)) = some T := by rw [hT]; kernel_rfl
  have sc : storeF Tryz.prog 3 T (.ptr 2 0 0) (.d (.int .i64 0)) = some T := by rw [hT]; kernel_rfl
  have la : loadF Tryz.prog 28 T (.ptr 0 0 0) = some (.agg ((ruleL w).map .d)) := by rw [hT]; kernel_rfl
  have lb : loadF Tryz.prog 29 T (.ptr 1 0 0) = some (.d (.int .i64 0)) := by rw [hT]; kernel_rfl
  have lc : loadF Tryz.prog 3 T (.ptr 2 0 0) = some (.d (.int .i64 0)) := by rw [hT]; kernel_rfl
  simp only [↓RP, RS, Int.reduceBEq, Int.reduceBNe, Int.reduceLT, Int.reduceLE, Int.reduceAdd, Int.reduceSub, ↓reduceIte, Nat.reduceAdd, Nat.reduceMul, Nat.reduceSub, Nat.reduceLT, Nat.reduceLeDiff, Nat.reduceEqDiff, decide_true, decide_false, fieldAddrF, undE, tupE, W6, sa, sb, sc]
  refine hK.fin (r := .tup [.agg ((ruleL w).map .d), .d (.int .i64 0), .d (.int .i64 0)]) (by simp only [resF, resAll, resOne, e6, RS, la, lb, lc]) (Fin.keep (n := 0) [] (by simp) (by simp) (fun i hi => by simp at hi)) ⟨?_, ?_⟩
  · simp only [renV, renVs, renVs_d]
  · rfl
end Go.Proofs.YtchgfpehcjomeaaGreatDoor.Am
