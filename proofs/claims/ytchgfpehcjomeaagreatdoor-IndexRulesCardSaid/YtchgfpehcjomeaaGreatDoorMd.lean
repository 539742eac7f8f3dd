/- The walk of the law IndexRules. -/
import Derived.Test.YtchgfpehcjomeaaGreatDoorMa
import Derived.Test.YtchgfpehcjomeaaGreatDoorIk
set_option linter.unusedSimpArgs false
set_option linter.unusedVariables false
set_option maxRecDepth 100000
set_option maxHeartbeats 2000000
namespace Go.Proofs.YtchgfpehcjomeaaGreatDoor.Am
open Go Go.Proofs

theorem parse6f (w : W) (hw : w.length ≤ 24) (hb : ∀ b ∈ w, 97 ≤ b.toNat ∧ b.toNat ≤ 122) (τ : List Ob) : callA Tryz.prog 6 [.d (.str (srcW w))] τ fun r σ' => r = .tup [.agg ((ruleL w).map .d), .d (.int .i64 0), .d (.int .i64 0)] ∧ σ' = τ := by
  refine callA_mono (callA_frame (parse6 w hw hb) [] τ (by simp) rfl (fun i hi => by simp at hi) (fun j i hj => by simp at hj)) fun r σ' q => ?_
  obtain ⟨r0, σ0, ⟨rfl, rfl⟩, rfl, rfl⟩ := q
  exact ⟨rfl, by simp [storeBack]; rfl⟩

theorem found_one {ws l : List W} {w : W} (h : FoundOk (updA (fun _ => []) [105, 100] ws) [w] l) : ((l.length : Int) == 1) = decide (w ∈ ws) := by
  obtain ⟨h1, h2⟩ := h
  have nd : l.Nodup := h1.imp fun h e => by subst e; exact (List.lt_irrefl _ h).elim
  have hle : l.length ≤ 1 := nodup_le (m := [[105, 100]]) nd fun x hx => by
    have := ((h2 x).1 hx).2 w (by simp)
    simp only [updA] at this
    split at this
    · simpa
    · simp at this
  by_cases hw : w ∈ ws
  · have hm : [105, 100] ∈ l := (h2 _).2 ⟨by simp, fun w' hw' => by simp at hw'; subst hw'; simpa [updA] using hw⟩
    have := List.length_pos_of_mem hm
    have : l.length = 1 := by omega
    simp [this, hw]
  · have : l = [] := by
      cases l with
      | nil => rfl
      | cons a l =>
        have := ((h2 a).1 (by simp)).2 w (by simp)
        simp only [updA] at this
        split at this
        · exact (hw this).elim
        · simp at this
    subst this
    simp [hw]

theorem wordsOf_asc (s : W) : (wordsOf s).Pairwise (fun a b => a < b) := by
  unfold wordsOf
  rw [← scanK_all]
  exact sorted_lt (scanOk s _ (Nat.le_refl _)).nd

theorem rules3 (s w : W) : callA Tryz.prog 3 [.d (.str s), .d (.str w)] [] fun r _ => r = .d (.bool true) := by
  refine w3.go fun K hK => ?_
  simp only [e3, c3, p3, Tryz.f3, codeOf, comp, opsOf, stOf, cop, cstp, copAt, planFor, List.find?, List.find?_nil, Option.map_none, Option.getD_none, List.any_cons, List.any_nil, Stp.idx, Bool.or_false, Nat.reduceBEq, ↓RP, RS, Int.reduceBEq, Int.reduceBNe, Int.reduceLT, Int.reduceLE, Int.reduceAdd, Int.reduceSub, ↓reduceIte, Nat.reduceAdd, Nat.reduceMul, Nat.reduceSub, Nat.reduceLT, Nat.reduceLeDiff, Nat.reduceEqDiff, decide_true, decide_false, fieldAddrF, undE, tupE, W3]
  refine CallK_use' (small8 []) fun v σ' ⟨q1, q2⟩ => ?_
  subst q1; subst q2
  simp only [↓RP, RS, Int.reduceBEq, Int.reduceBNe, Int.reduceLT, Int.reduceLE, Int.reduceAdd, Int.reduceSub, ↓reduceIte, Nat.reduceAdd, Nat.reduceMul, Nat.reduceSub, Nat.reduceLT, Nat.reduceLeDiff, Nat.reduceEqDiff, decide_true, decide_false, fieldAddrF, undE, tupE, W3]
  refine CallK_use' (new14 []) fun v0 s1 ⟨x, t, i, S1, q1, I1, kp1, hS1⟩ => ?_
  subst q1
  have a1 := I1.alive
  by_cases h1 : 500 < s.length
  · have e1 : decide ((500 : Int) < s.length) = true := decide_eq_true (by omega)
    simp only [↓RP, RS, Int.reduceBEq, Int.reduceBNe, Int.reduceLT, Int.reduceLE, Int.reduceAdd, Int.reduceSub, ↓reduceIte, Nat.reduceAdd, Nat.reduceMul, Nat.reduceSub, Nat.reduceLT, Nat.reduceLeDiff, Nat.reduceEqDiff, decide_true, decide_false, fieldAddrF, undE, tupE, W3, a1, e1]
    exact hK.ret (by rfl) rfl
  have e1 : decide ((500 : Int) < s.length) = false := decide_eq_false (by omega)
  by_cases h2 : 24 < w.length
  · have e2 : decide ((24 : Int) < w.length) = true := decide_eq_true (by omega)
    simp only [↓RP, RS, Int.reduceBEq, Int.reduceBNe, Int.reduceLT, Int.reduceLE, Int.reduceAdd, Int.reduceSub, ↓reduceIte, Nat.reduceAdd, Nat.reduceMul, Nat.reduceSub, Nat.reduceLT, Nat.reduceLeDiff, Nat.reduceEqDiff, decide_true, decide_false, fieldAddrF, undE, tupE, W3, a1, e1, e2]
    exact hK.ret (by rfl) rfl
  have e2 : decide ((24 : Int) < w.length) = false := decide_eq_false (by omega)
  by_cases h3 : w = []
  · have e3 : strBin .eql w [] = some (.bool true) := by simp [strBin, h3]
    simp only [↓RP, RS, Int.reduceBEq, Int.reduceBNe, Int.reduceLT, Int.reduceLE, Int.reduceAdd, Int.reduceSub, ↓reduceIte, Nat.reduceAdd, Nat.reduceMul, Nat.reduceSub, Nat.reduceLT, Nat.reduceLeDiff, Nat.reduceEqDiff, decide_true, decide_false, fieldAddrF, undE, tupE, W3, a1, e1, e2, e3]
    exact hK.ret (by rfl) rfl
  have e3 : strBin .eql w [] = some (.bool false) := by simp [strBin, h3]
  simp only [↓RP, RS, Int.reduceBEq, Int.reduceBNe, Int.reduceLT, Int.reduceLE, Int.reduceAdd, Int.reduceSub, ↓reduceIte, Nat.reduceAdd, Nat.reduceMul, Nat.reduceSub, Nat.reduceLT, Nat.reduceLeDiff, Nat.reduceEqDiff, decide_true, decide_false, fieldAddrF, undE, tupE, W3, a1, e1, e2, e3]
  refine Loop_k [0, 1, 5, 6, 7] (fun k : Nat => fr 0 90 [(0, .d (.str s)), (1, .d (.str w)), (5, .d (.bool true)), (6, .ptr x 0 0), (7, .d (.int .i64 k))]) (fun _ => s1) (fun k => k ≤ w.length ∧ ∀ b ∈ w.take k, 97 ≤ b.toNat ∧ b.toNat ≤ 122) (fun k => w.length - k) 0 (by kernel_rfl) rfl ⟨Nat.zero_le _, by simp⟩ fun k hI => ?_
  obtain ⟨hk, hb⟩ := hI
  by_cases hlt : k < w.length
  · have hd : decide ((k : Int) < (w.length : Int)) = true := by simpa using hlt
    have hw1 : IntKind.i64.wrap ((k : Int) + 1) = ((k + 1 : Nat) : Int) := by rw [IntWalk.i64_in _ (by omega)]; rfl
    obtain ⟨b, hb1⟩ : ∃ b, w[k]? = some b := ⟨w[k], List.getElem?_eq_getElem hlt⟩
    have x1 := ixs hb1
    by_cases c1 : b.toNat < 97
    · have d1 : decide ((b.toNat : Int) < 97) = true := decide_eq_true (by omega)
      simp only [fr, ↓RP, RS, Int.reduceBEq, Int.reduceBNe, Int.reduceLT, Int.reduceLE, Int.reduceAdd, Int.reduceSub, ↓reduceIte, Nat.reduceAdd, Nat.reduceMul, Nat.reduceSub, Nat.reduceLT, Nat.reduceLeDiff, Nat.reduceEqDiff, decide_true, decide_false, fieldAddrF, undE, tupE, W3, hd, x1, d1]
      exact hK.ret (by rfl) rfl
    have d1 : decide ((b.toNat : Int) < 97) = false := decide_eq_false (by omega)
    by_cases c2 : 122 < b.toNat
    · have d2 : decide ((122 : Int) < b.toNat) = true := decide_eq_true (by omega)
      simp only [fr, ↓RP, RS, Int.reduceBEq, Int.reduceBNe, Int.reduceLT, Int.reduceLE, Int.reduceAdd, Int.reduceSub, ↓reduceIte, Nat.reduceAdd, Nat.reduceMul, Nat.reduceSub, Nat.reduceLT, Nat.reduceLeDiff, Nat.reduceEqDiff, decide_true, decide_false, fieldAddrF, undE, tupE, W3, hd, x1, d1, d2]
      exact hK.ret (by rfl) rfl
    have d2 : decide ((122 : Int) < b.toNat) = false := decide_eq_false (by omega)
    simp only [fr, ↓RP, RS, Int.reduceBEq, Int.reduceBNe, Int.reduceLT, Int.reduceLE, Int.reduceAdd, Int.reduceSub, ↓reduceIte, Nat.reduceAdd, Nat.reduceMul, Nat.reduceSub, Nat.reduceLT, Nat.reduceLeDiff, Nat.reduceEqDiff, decide_true, decide_false, fieldAddrF, undE, tupE, W3, hd, x1, d1, d2, hw1]
    refine seqK_n ⟨k + 1, ⟨by omega, fun b' hb' => ?_⟩, by omega, by kernel_rfl, rfl⟩
    rw [List.take_add_one, hb1] at hb'
    simp only [List.mem_append, Option.toList_some, List.mem_singleton] at hb'
    rcases hb' with hb' | rfl
    · exact hb b' hb'
    · omega
  have hd : decide ((k : Int) < (w.length : Int)) = false := by simpa using hlt
  have hkw : w.take k = w := List.take_of_length_le (by omega)
  rw [hkw] at hb
  have c1 : strBin .add [119, 104, 101, 110, 32, 119, 111, 114, 100, 40, 34] w = some (.str (sPre ++ w)) := by rw [strBin, if_pos (by simp; omega)]; rfl
  have c2 : strBin .add (sPre ++ w) [34, 41, 32, 116, 104, 101, 110, 32, 104, 105, 100, 101, 32, 34, 102, 111, 117, 110, 100, 34, 10, 100, 101, 102, 97, 117, 108, 116, 32, 115, 104, 111, 119] = some (.str (srcW w)) := by rw [strBin, if_pos (by simp [sPre]; omega)]; rfl
  simp only [fr, ↓RP, RS, Int.reduceBEq, Int.reduceBNe, Int.reduceLT, Int.reduceLE, Int.reduceAdd, Int.reduceSub, ↓reduceIte, Nat.reduceAdd, Nat.reduceMul, Nat.reduceSub, Nat.reduceLT, Nat.reduceLeDiff, Nat.reduceEqDiff, decide_true, decide_false, fieldAddrF, undE, tupE, W3, hd, c1, c2]
  refine CallK_use' (parse6f w (by omega) hb _) fun v σ' ⟨q1, q2⟩ => ?_
  subst q1; rw [q2]; clear q2
  have n0 : (s1 ++ [Ob.box [V.d D.nils, V.d D.nils, .d (.int .i64 0)]])[s1.length]? = some (.box [V.d D.nils, V.d D.nils, .d (.int .i64 0)]) := by simp
  have st0 := store_agg (P := Tryz.prog) (t := 28) (k := 0) n0 (xs := (ruleL w).map .d) (by rfl) (by simp [ruleL]) (by simp [ruleL, W3]) (by simp [W3])
  rw [setAt_all (by simp [ruleL]), List.set_append_right _ _ (Nat.le_refl _), Nat.sub_self, List.set_cons_zero] at st0
  obtain ⟨s2, hs2⟩ : ∃ s2, s2 = s1 ++ [Ob.box ((ruleL w).map .d)] := ⟨_, rfl⟩
  rw [← hs2] at st0
  have g2 : s2[s1.length]? = some (.box ((ruleL w).map .d)) := by rw [hs2]; simp
  have k12 : Keeps (fun _ => False) s1 s2 := by rw [hs2]; exact Keeps.app _ _ _
  have l2 := load_all (P := Tryz.prog) (t := 28) g2 (by simp [ruleL, W3]) (by simp only [W3]) (by simp [W3])
  have e0 : ((0 : Int) == 0) = true := rfl
  simp only [↓RP, RS, Int.reduceBEq, Int.reduceBNe, Int.reduceLT, Int.reduceLE, Int.reduceAdd, Int.reduceSub, ↓reduceIte, Nat.reduceAdd, Nat.reduceMul, Nat.reduceSub, Nat.reduceLT, Nat.reduceLeDiff, Nat.reduceEqDiff, decide_true, decide_false, fieldAddrF, undE, tupE, W3, extractF, allocE, st0, l2, e0]
  refine CallK_use (words9 s (by omega) _) fun v σ' ⟨q1, q2⟩ => ?_
  subst q1; rw [q2]; clear q2
  refine ⟨by simp only [chkC, wantC, ↓RP, RS, Int.reduceBEq, Int.reduceBNe, Int.reduceLT, Int.reduceLE, Int.reduceAdd, Int.reduceSub, ↓reduceIte, Nat.reduceAdd, Nat.reduceMul, Nat.reduceSub, Nat.reduceLT, Nat.reduceLeDiff, Nat.reduceEqDiff, decide_true, decide_false, fieldAddrF, undE, tupE, W3, l2], ?_⟩
  have bf : ∀ sl, get sl (.tmp 65) = .d (wordsD s) → buildF Tryz.prog 39 s2 sl [(11, .tmp 65)] = some (.agg ((factsL (wordsOf s)).map .d)) := fun sl hsl => by
    simp only [buildF, W3, fillV, hsl, cellsV]
    rfl
  have hwl := wordsOf_len s
  simp only [↓RP, RS, Int.reduceBEq, Int.reduceBNe, Int.reduceLT, Int.reduceLE, Int.reduceAdd, Int.reduceSub, ↓reduceIte, Nat.reduceAdd, Nat.reduceMul, Nat.reduceSub, Nat.reduceLT, Nat.reduceLeDiff, Nat.reduceEqDiff, decide_true, decide_false, fieldAddrF, undE, tupE, W3, bf]
  refine CallK_use' (run7 w ⟨by omega, h3, hb⟩ (wordsOf s) (by omega) (wordsOf_asc s) _) fun v s3 ⟨q1, k23⟩ => ?_
  subst q1
  obtain ⟨out, hout⟩ : ∃ out, out = (if w ∈ wordsOf s then outL 3 [102, 111, 117, 110, 100] else outL 0 []) := ⟨_, rfl⟩
  have ho : out.length = 4 := by rw [hout]; split <;> rfl
  have ho3 : out[3]? = some (.d (.int .i64 0)) := by rw [hout]; split <;> rfl
  have ho0 : out[0]? = some (.d (.int .i64 (if w ∈ wordsOf s then 3 else 0))) := by rw [hout]; split <;> rfl
  have hoo : out.all (one s3) = true := by rw [hout]; split <;> rfl
  rw [← hout]
  have n3 : (s3 ++ [Ob.box out0])[s3.length]? = some (.box out0) := by simp
  have st3 := store_agg (P := Tryz.prog) (t := 33) (k := 0) n3 (xs := out) (by rw [hout]; split <;> rfl) (by simp [ho, out0]) (by simp [ho, W3]) (by simp [W3])
  rw [setAt_all (by simp [ho, out0]), List.set_append_right _ _ (Nat.le_refl _), Nat.sub_self, List.set_cons_zero, out0] at st3
  obtain ⟨s4, hs4⟩ : ∃ s4, s4 = s3 ++ [Ob.box out] := ⟨_, rfl⟩
  rw [← hs4] at st3
  have g4 : s4[s3.length]? = some (.box out) := by rw [hs4]; simp
  have k34 : Keeps (fun _ => False) s3 s4 := by rw [hs4]; exact Keeps.app _ _ _
  have I3 := (I1.keep k12 fun _ _ h => h).keep k23 fun _ _ h => h
  have hS3 : ¬ S1 s3.length := fun h => Nat.lt_irrefl _ (I3.lt h)
  have I4 := I3.keep k34 fun _ _ h => h
  simp only [↓RP, RS, Int.reduceBEq, Int.reduceBNe, Int.reduceLT, Int.reduceLE, Int.reduceAdd, Int.reduceSub, ↓reduceIte, Nat.reduceAdd, Nat.reduceMul, Nat.reduceSub, Nat.reduceLT, Nat.reduceLeDiff, Nat.reduceEqDiff, decide_true, decide_false, fieldAddrF, undE, tupE, W3, allocE, st3]
  refine CallK_use' (set15 I4 [105, 100] s (by simp) (by omega)) fun v0 s5 ⟨q1, S5, I5, k45, hS5⟩ => ?_
  subst q1
  have g5 := k45.get g4 hS3
  have bs := fun (sl : List V) (hg : get sl (.tmp 72) = .d (.str w)) => build23 (σ := s5) hg
  have k56 := Keeps.app (fun _ => False) s5 [Ob.arr 1 false [.str w]]
  have v6 : LstAt (s5 ++ [.arr 1 false [.str w]]) (.sl s5.length 0 1) [w] := .own0 (mk := false) (l := [w]) (by simp)
  have I6 := I5.keep k56 (fun _ _ h => h)
  simp only [↓RP, RS, Int.reduceBEq, Int.reduceBNe, Int.reduceLT, Int.reduceLE, Int.reduceAdd, Int.reduceSub, ↓reduceIte, Nat.reduceAdd, Nat.reduceMul, Nat.reduceSub, Nat.reduceLT, Nat.reduceLeDiff, Nat.reduceEqDiff, decide_true, decide_false, fieldAddrF, undE, tupE, W3, bs, List.toList_toArray]
  refine CallK_use' (find19 I6 (by simp) [w] v6 (by simp)) fun vo s7 ⟨l, r7, f7, k67, n7⟩ => ?_
  have g7 := k67.get (k56.get g5 fun h => h) fun h => h
  have nl : builtinF Tryz.prog .len [35] s7 [vo] = some (.d (.int .i64 l.length)) := r7.len
  have fo := found_one f7
  have a7 := alive_of g7 (by simp)
  have la := load_box (P := Tryz.prog) (t := 29) (k := 3) g7 ho3 (by simp only [W3]) (by simp only [W3])
  have lb := load_box (P := Tryz.prog) (t := 3) (k := 0) g7 ho0 (by simp only [W3]) (by simp only [W3])
  have ea : ((if w ∈ wordsOf s then (3 : Int) else 0) == 3) = decide (w ∈ wordsOf s) := by by_cases h : w ∈ wordsOf s <;> simp [h]
  have eb : ∀ b : Bool, (b == b) = true := fun b => by cases b <;> rfl
  simp only [↓RP, RS, Int.reduceBEq, Int.reduceBNe, Int.reduceLT, Int.reduceLE, Int.reduceAdd, Int.reduceSub, ↓reduceIte, Nat.reduceAdd, Nat.reduceMul, Nat.reduceSub, Nat.reduceLT, Nat.reduceLeDiff, Nat.reduceEqDiff, decide_true, decide_false, fieldAddrF, undE, tupE, W3, nl, fo, a7, la, lb, ea, e0, eb]
  exact hK.ret (by rfl) rfl
end Go.Proofs.YtchgfpehcjomeaaGreatDoor.Am
