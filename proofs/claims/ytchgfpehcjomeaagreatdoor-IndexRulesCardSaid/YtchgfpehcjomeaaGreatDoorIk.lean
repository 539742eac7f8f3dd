/- Same; the fixed example. -/
import Derived.Test.YtchgfpehcjomeaaGreatDoorIj
set_option linter.unusedSimpArgs false
set_option linter.unusedVariables false
set_option maxRecDepth 10000
set_option maxHeartbeats 2000000
namespace Go.Proofs.YtchgfpehcjomeaaGreatDoor.Am
open Go Go.Proofs

theorem asc_ext : ∀ {l l' : List W}, l.Pairwise (fun a b => a < b) → l'.Pairwise (fun a b => a < b) → (∀ x, x ∈ l ↔ x ∈ l') → l = l'
  | [], [], _, _, _ => rfl
  | [], y :: _, _, _, h => by have := (h y).2 (by simp); cases this
  | x :: _, [], _, _, h => by have := (h x).1 (by simp); cases this
  | x :: l, y :: l', h1, h2, h => by
    rw [List.pairwise_cons] at h1 h2
    have hxy : x = y := by
      rcases List.mem_cons.1 ((h x).1 (by simp)) with e | g1
      · exact e
      · rcases List.mem_cons.1 ((h y).2 (by simp)) with e | g2
        · exact e.symm
        · exact (List.lt_irrefl x (List.lt_trans (h1.1 y g2) (h2.1 x g1))).elim
    subst hxy
    rw [asc_ext h1.2 h2.2 fun z => ?_]
    constructor
    · intro hz
      rcases List.mem_cons.1 ((h z).1 (by simp [hz])) with e | g
      · subst e; exact (List.lt_irrefl z (h1.1 z hz)).elim
      · exact g
    · intro hz
      rcases List.mem_cons.1 ((h z).2 (by simp [hz])) with e | g
      · subst e; exact (List.lt_irrefl z (h2.1 z hz)).elim
      · exact g
theorem FoundOk.eq {A : W → List W} {ws l l' : List W} (h : FoundOk A ws l) (h' : FoundOk A ws l') : l = l' :=
  asc_ext h.1 h'.1 fun x => (h.2 x).trans (h'.2 x).symm
theorem mem_wordsOf {w s : W} : w ∈ wordsOf s ↔ w ∈ (scanW s).2 := (List.mergeSort_perm _ _).mem_iff
theorem IxAt.alive {σ : List Ob} {x t i : Nat} {S : Nat → Prop} {A : W → List W} {p : W → W → Prop} {L : List W} (h : IxAt σ x t i S A p L) : alive σ x = true := by
  obtain ⟨tes, tc, ies, ic, H⟩ := h
  exact alive_of H.box (by simp)
theorem IxAt.lt {σ : List Ob} {x t i : Nat} {S : Nat → Prop} {A : W → List W} {p : W → W → Prop} {L : List W} (h : IxAt σ x t i S A p L) {o : Nat} (ho : S o) : o < σ.length := by
  obtain ⟨tes, tc, ies, ic, H⟩ := h
  exact H.sub o ho

def sA : W := [97]
def sB : W := [98]
def sG : W := [103, 114, 101, 101, 110]
def sR : W := [114, 101, 100]
def sRG : W := [114, 101, 100, 32, 103, 114, 101, 101, 110]
def sGG : W := [71, 114, 101, 101, 110]
theorem scanRG : (scanW sRG).2 = [sR, sG] := by kernel_rfl
theorem scanGG : (scanW sGG).2 = [sG] := by kernel_rfl

def A3 : W → List W := updA (updA (fun _ => []) sA (wordsOf sRG)) sB (wordsOf sGG)
theorem A3_mem (w id : W) : w ∈ A3 id ↔ (id = sB ∧ w = sG) ∨ (id = sA ∧ (w = sR ∨ w = sG)) := by
  have hab : sA ≠ sB := by decide
  unfold A3 updA
  by_cases hb : id = sB
  · subst hb
    rw [if_pos rfl, mem_wordsOf, scanGG]
    simp [Ne.symm hab]
  · rw [if_neg hb]
    by_cases ha : id = sA
    · subst ha
      rw [if_pos rfl, mem_wordsOf, scanRG]
      simp [hab]
    · rw [if_neg ha]; simp [ha, hb]
theorem A4_mem (w id : W) : w ∈ updA A3 sA [] id ↔ id = sB ∧ w = sG := by
  have hab : sA ≠ sB := by decide
  unfold updA
  by_cases ha : id = sA
  · rw [if_pos ha, ha]; simp [hab]
  · rw [if_neg ha, A3_mem]; simp [ha]
theorem found1 : FoundOk A3 [sG] [sA, sB] := by
  refine ⟨by simp; decide, fun id => ?_⟩
  simp only [List.mem_cons, List.not_mem_nil, or_false, forall_eq, A3_mem, ne_eq, reduceCtorEq, not_false_eq_true, true_and]
  constructor
  · rintro (h | h)
    · exact .inr ⟨h, by simp⟩
    · exact .inl ⟨h, by simp⟩
  · rintro (h | h)
    · exact .inr h.1
    · exact .inl h.1
theorem found2 : FoundOk A3 [sG, sR] [sA] := by
  have hgr : sR ≠ sG := by decide
  refine ⟨by simp, fun id => ?_⟩
  constructor
  · intro h
    simp at h; subst h
    refine ⟨by simp, fun w hw => (A3_mem _ _).2 (.inr ⟨rfl, ?_⟩)⟩
    simp at hw
    rcases hw with h | h
    · exact .inr h
    · exact .inl h
  · rintro ⟨_, h⟩
    rcases (A3_mem _ _).1 (h sR (by simp)) with g | g
    · exact (hgr g.2).elim
    · simp [g.1]
theorem found3 : FoundOk (updA A3 sA []) [sG] [sB] := by
  refine ⟨by simp, fun id => ?_⟩
  simp only [List.mem_cons, List.not_mem_nil, or_false, forall_eq, A4_mem, ne_eq, reduceCtorEq, not_false_eq_true, true_and, and_true]
theorem build23b {σ : List Ob} {s : List V} {x y : Operand} {w u : W} (h : get s x = .d (.str w)) (h' : get s y = .d (.str u)) : buildSliceF Tryz.prog 35 2 σ s [(0, x), (1, y)] = some (.sl σ.length 0 2, σ ++ [.arr 1 false [.str w, .str u]]) := by
  simp only [buildSliceF, T35, T9, inOrder, toDs, h, h', toD, flatOk, D.csz, D.cells, List.all_cons, List.all_nil, one1, beq_self_eq_true, if_true, Option.map_some, List.length_cons, List.length_nil]
  rfl

theorem lenA : (updA (updA (fun _ => []) sA (wordsOf sRG)) sB (wordsOf sGG) sA).length ≤ 1048576 := by
  have e : updA (updA (fun _ => []) sA (wordsOf sRG)) sB (wordsOf sGG) sA = wordsOf sRG := by simp [updA, show sA ≠ sB by decide]
  have h := wordsOf_len sRG
  have hl : sRG.length = 9 := rfl
  rw [e]; omega

theorem small8c : callA Tryz.prog 4 [] [] fun r σ' => r = .d (.bool true) ∧ σ' = [] := by
  refine w4.go fun K hK => ?_
  simp only [e4, c4, p4, Tryz.f4, codeOf, comp, opsOf, stOf, cop, cstp, copAt, planFor, List.find?, List.find?_nil, Option.map_none, Option.getD_none, List.any_cons, List.any_nil, Stp.idx, Bool.or_false, Nat.reduceBEq, ↓RP, RS, Int.reduceBEq, Int.reduceBNe, Int.reduceLT, Int.reduceLE, Int.reduceAdd, Int.reduceSub, ↓reduceIte, Nat.reduceAdd, Nat.reduceMul, Nat.reduceSub, Nat.reduceLT, Nat.reduceLeDiff, Nat.reduceEqDiff, decide_true, decide_false, fieldAddrF, undE, tupE, W4]
  refine CallK_use' (new14 []) fun v0 s1 ⟨x, t, i, S1, q1, I1, kp1, hS1⟩ => ?_
  subst q1
  have a1 := I1.alive
  simp only [↓RP, RS, Int.reduceBEq, Int.reduceBNe, Int.reduceLT, Int.reduceLE, Int.reduceAdd, Int.reduceSub, ↓reduceIte, Nat.reduceAdd, Nat.reduceMul, Nat.reduceSub, Nat.reduceLT, Nat.reduceLeDiff, Nat.reduceEqDiff, decide_true, decide_false, fieldAddrF, undE, tupE, W4, a1]
  refine CallK_use' (set15 I1 sA sRG (by simp) (by decide)) fun v0 s2 ⟨q1, S2, I2, kp2, hS2⟩ => ?_
  subst q1
  simp only [↓RP, RS, Int.reduceBEq, Int.reduceBNe, Int.reduceLT, Int.reduceLE, Int.reduceAdd, Int.reduceSub, ↓reduceIte, Nat.reduceAdd, Nat.reduceMul, Nat.reduceSub, Nat.reduceLT, Nat.reduceLeDiff, Nat.reduceEqDiff, decide_true, decide_false, fieldAddrF, undE, tupE, W4]
  refine CallK_use' (set15 I2 sB sGG (by simp [updA, sA, sB]) (by decide)) fun v0 s3 ⟨q1, S3, I3, kp3, hS3⟩ => ?_
  subst q1
  simp only [↓RP, RS, Int.reduceBEq, Int.reduceBNe, Int.reduceLT, Int.reduceLE, Int.reduceAdd, Int.reduceSub, ↓reduceIte, Nat.reduceAdd, Nat.reduceMul, Nat.reduceSub, Nat.reduceLT, Nat.reduceLeDiff, Nat.reduceEqDiff, decide_true, decide_false, fieldAddrF, undE, tupE, W4]
  have bs := fun (s : List V) => build23 (σ := s3) (s := s) (x := .const (.string ⟨#[103, 114, 101, 101, 110]⟩)) (w := sG) rfl
  have v3 : LstAt (s3 ++ [.arr 1 false [.str sG]]) (.sl s3.length 0 1) [sG] := .own0 (mk := false) (l := [sG]) (by simp)
  have I3' := I3.keep (Keeps.app (fun _ => False) s3 [.arr 1 false [.str sG]]) (fun _ _ h => h)
  have g3 : (s3 ++ [Ob.arr 1 false [.str sG]])[s3.length]? = some (.arr 1 false [.str sG]) := by simp
  simp only [bs, List.toList_toArray, ↓RP, RS, Int.reduceBEq, Int.reduceBNe, Int.reduceLT, Int.reduceLE, Int.reduceAdd, Int.reduceSub, ↓reduceIte, Nat.reduceAdd, Nat.reduceMul, Nat.reduceSub, Nat.reduceLT, Nat.reduceLeDiff, Nat.reduceEqDiff, decide_true, decide_false, fieldAddrF, undE, tupE, W4]
  refine CallK_use' (find19 I3' (by simp) [sG] v3 (by simp)) fun vo1 s4 ⟨l1, r1, f1, kp4, n4⟩ => ?_
  have I4 := I3'.keep kp4 (fun _ _ h => h)
  simp only [↓RP, RS, Int.reduceBEq, Int.reduceBNe, Int.reduceLT, Int.reduceLE, Int.reduceAdd, Int.reduceSub, ↓reduceIte, Nat.reduceAdd, Nat.reduceMul, Nat.reduceSub, Nat.reduceLT, Nat.reduceLeDiff, Nat.reduceEqDiff, decide_true, decide_false, fieldAddrF, undE, tupE, W4]
  have e1 := f1.eq found1
  subst e1
  -- the second
  have bs2 := fun (s : List V) => build23b (σ := s4) (s := s) (x := .const (.string ⟨#[103, 114, 101, 101, 110]⟩)) (y := .const (.string ⟨#[114, 101, 100]⟩)) (w := sG) (u := sR) rfl rfl
  have v4 : LstAt (s4 ++ [.arr 1 false [.str sG, .str sR]]) (.sl s4.length 0 2) [sG, sR] := .own0 (mk := false) (l := [sG, sR]) (by simp)
  have kp4' := Keeps.app (fun _ => False) s4 [Ob.arr 1 false [.str sG, .str sR]]
  have I4' := I4.keep kp4' (fun _ _ h => h)
  simp only [bs2, List.toList_toArray, ↓RP, RS, Int.reduceBEq, Int.reduceBNe, Int.reduceLT, Int.reduceLE, Int.reduceAdd, Int.reduceSub, ↓reduceIte, Nat.reduceAdd, Nat.reduceMul, Nat.reduceSub, Nat.reduceLT, Nat.reduceLeDiff, Nat.reduceEqDiff, decide_true, decide_false, fieldAddrF, undE, tupE, W4]
  refine CallK_use' (find19 I4' (by simp) [sG, sR] v4 (by simp)) fun vo2 s5 ⟨l2, r2, f2, kp5, n5⟩ => ?_
  have I5 := I4'.keep kp5 (fun _ _ h => h)
  have e2 := f2.eq found2
  subst e2
  have r1 := (r1.keep kp4' (fun _ _ _ _ h => h)).keep kp5 (fun _ _ _ _ h => h)
  simp only [↓RP, RS, Int.reduceBEq, Int.reduceBNe, Int.reduceLT, Int.reduceLE, Int.reduceAdd, Int.reduceSub, ↓reduceIte, Nat.reduceAdd, Nat.reduceMul, Nat.reduceSub, Nat.reduceLT, Nat.reduceLeDiff, Nat.reduceEqDiff, decide_true, decide_false, fieldAddrF, undE, tupE, W4]
  refine CallK_use' (remove17 I5 sA lenA) fun v0 s6 ⟨q1, I6, kp6⟩ => ?_
  subst q1
  simp only [List.length_append, List.length_cons, List.length_nil] at n4 n5
  have r1 := r1.keep kp6 (fun q o n e hS => by have := n4 q o n e; have := I3.lt hS; omega)
  have r2 := r2.keep kp6 (fun q o n e hS => by have := n5 q o n e; have := I3.lt hS; have := kp4.1; simp at this; omega)
  simp only [↓RP, RS, Int.reduceBEq, Int.reduceBNe, Int.reduceLT, Int.reduceLE, Int.reduceAdd, Int.reduceSub, ↓reduceIte, Nat.reduceAdd, Nat.reduceMul, Nat.reduceSub, Nat.reduceLT, Nat.reduceLeDiff, Nat.reduceEqDiff, decide_true, decide_false, fieldAddrF, undE, tupE, W4]
  have bs3 := fun (s : List V) => build23 (σ := s6) (s := s) (x := .const (.string ⟨#[103, 114, 101, 101, 110]⟩)) (w := sG) rfl
  have v6 : LstAt (s6 ++ [.arr 1 false [.str sG]]) (.sl s6.length 0 1) [sG] := .own0 (mk := false) (l := [sG]) (by simp)
  have kp6' := Keeps.app (fun _ => False) s6 [Ob.arr 1 false [.str sG]]
  have I6' := I6.keep kp6' (fun _ _ h => h)
  simp only [bs3, List.toList_toArray, ↓RP, RS, Int.reduceBEq, Int.reduceBNe, Int.reduceLT, Int.reduceLE, Int.reduceAdd, Int.reduceSub, ↓reduceIte, Nat.reduceAdd, Nat.reduceMul, Nat.reduceSub, Nat.reduceLT, Nat.reduceLeDiff, Nat.reduceEqDiff, decide_true, decide_false, fieldAddrF, undE, tupE, W4]
  refine CallK_use' (find19 I6' (by simp) [sG] v6 (by simp)) fun vo3 s7 ⟨l3, r3, f3, kp7, n7⟩ => ?_
  have I7 := I6'.keep kp7 (fun _ _ h => h)
  have e3 := f3.eq found3
  subst e3
  have r1 := (r1.keep kp6' (fun _ _ _ _ h => h)).keep kp7 (fun _ _ _ _ h => h)
  have r2 := (r2.keep kp6' (fun _ _ _ _ h => h)).keep kp7 (fun _ _ _ _ h => h)
  have n1 : builtinF Tryz.prog .len [35] s7 [vo1] = some (.d (.int .i64 2)) := r1.len
  have n2 : builtinF Tryz.prog .len [35] s7 [vo2] = some (.d (.int .i64 1)) := r2.len
  have n3 : builtinF Tryz.prog .len [35] s7 [vo3] = some (.d (.int .i64 1)) := r3.len
  obtain ⟨a1, x1', y1⟩ := r1.get (k := 0) (s := sA) rfl
  obtain ⟨a2, x2', y2⟩ := r2.get (k := 0) (s := sA) rfl
  obtain ⟨a3, x3', y3⟩ := r3.get (k := 0) (s := sB) rfl
  have x1 : indexAddrF Tryz.prog 35 s7 vo1 (.d (.int .i64 0)) = some a1 := x1'
  have x2 : indexAddrF Tryz.prog 35 s7 vo2 (.d (.int .i64 0)) = some a2 := x2'
  have x3 : indexAddrF Tryz.prog 35 s7 vo3 (.d (.int .i64 0)) = some a3 := x3'
  have ea : (sA == [97]) = true := by decide
  have eb : (sB == [98]) = true := by decide
  simp only [↓RP, RS, Int.reduceBEq, Int.reduceBNe, Int.reduceLT, Int.reduceLE, Int.reduceAdd, Int.reduceSub, ↓reduceIte, Nat.reduceAdd, Nat.reduceMul, Nat.reduceSub, Nat.reduceLT, Nat.reduceLeDiff, Nat.reduceEqDiff, decide_true, decide_false, fieldAddrF, undE, tupE, W4, n1, n2, n3, x1, x2, x3, y1, y2, y3, strBin, List.toList_toArray, ea, eb]
  refine CallK_use' (find19 I7 (by simp) [] .nil (by simp)) fun vo4 s8 ⟨l4, r4, f4, kp8, n8⟩ => ?_
  have e4 := f4.eq (l' := []) ⟨.nil, fun id => by simp⟩
  subst e4
  have n4 : builtinF Tryz.prog .len [35] s8 [vo4] = some (.d (.int .i64 0)) := r4.len
  simp only [↓RP, RS, Int.reduceBEq, Int.reduceBNe, Int.reduceLT, Int.reduceLE, Int.reduceAdd, Int.reduceSub, ↓reduceIte, Nat.reduceAdd, Nat.reduceMul, Nat.reduceSub, Nat.reduceLT, Nat.reduceLeDiff, Nat.reduceEqDiff, decide_true, decide_false, fieldAddrF, undE, tupE, W4, n4]
  exact hK.fin (by rfl) (Fin.drop0 _ _) ⟨rfl, rfl⟩

theorem small8 (τ : List Ob) : callA Tryz.prog 4 [] τ fun r σ' => r = .d (.bool true) ∧ σ' = τ := callA_val small8c τ rfl
end Go.Proofs.YtchgfpehcjomeaaGreatDoor.Am
