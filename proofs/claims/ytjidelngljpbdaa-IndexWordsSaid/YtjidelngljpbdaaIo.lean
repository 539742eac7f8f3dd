/- The law IndexWords. -/
import Derived.Test.YtjidelngljpbdaaIn
set_option linter.unusedSimpArgs false
set_option linter.unusedVariables false
set_option maxRecDepth 10000
set_option maxHeartbeats 2000000
namespace Go.Proofs.Ytjidelngljpbdaa.Am
open Go Go.Proofs

def joinW (c : UInt8) (ws : List W) : W := ws.flatMap fun w => c :: w
structure WordsOk (c : UInt8) (k : Nat) (x : W × List W) : Prop where
  cur : ∀ b ∈ x.1, letter b = some b
  acc : ∀ w ∈ x.2, w ≠ [] ∧ ∀ b ∈ w, letter b = some b
  len : x.1.length + (joinW c x.2).length ≤ k
theorem WordsOk.step {c : UInt8} {k : Nat} {x : W × List W} (h : WordsOk c k x) (b : Option UInt8) : WordsOk c (k + 1) (stepW x b) := by
  have hlen := h.len
  unfold stepW
  split
  · rename_i c' hc
    obtain ⟨b', rfl, hb⟩ := Option.bind_eq_some_iff.1 hc
    refine ⟨fun b hb' => ?_, h.acc, by simp; omega⟩
    rcases List.mem_append.1 hb' with g | g
    · exact h.cur b g
    · simp at g; subst g; exact (letter_ok hb).2
  · unfold flush
    split
    · exact ⟨fun b hb => (by cases hb), h.acc, by simp; omega⟩
    · rename_i hne
      unfold addW
      split
      · exact ⟨fun b hb => (by cases hb), h.acc, by simp; omega⟩
      · refine ⟨fun b hb => (by cases hb), fun w hw => ?_, ?_⟩
        · rcases List.mem_append.1 hw with g | g
          · exact h.acc w g
          · simp at g; subst g; exact ⟨hne, h.cur⟩
        · simp only [joinW, List.flatMap_append, List.length_append, List.flatMap_cons, List.flatMap_nil, List.length_cons, List.length_nil] at hlen ⊢
          omega
theorem wordsOk (c : UInt8) (s : W) : ∀ k, k ≤ s.length + 1 → WordsOk c k (scanK s k)
  | 0, _ => ⟨by simp [scanK_zero], by simp [scanK_zero], by simp [scanK_zero, joinW]⟩
  | k + 1, h => by
    have ih := wordsOk c s k (by omega)
    by_cases e : k < s.length
    · rw [scanK_in s e]; exact ih.step _
    · have : k = s.length := by omega
      subst this
      rw [scanK_last]; exact ih.step _
theorem fold_word : ∀ (w : W), (∀ b ∈ w, letter b = some b) → ∀ cur acc, (w.map some).foldl stepW (cur, acc) = (cur ++ w, acc)
  | [], _, cur, acc => by simp
  | b :: w, h, cur, acc => by
    rw [List.map_cons, List.foldl_cons]
    have : stepW (cur, acc) (some b) = (cur ++ [b], acc) := by simp [stepW, h b (by simp)]
    rw [this, fold_word w (fun b hb => h b (by simp [hb]))]
    simp
theorem fold_join {c : UInt8} (hc : letter c = none) : ∀ (ws : List W), (∀ w ∈ ws, w ≠ [] ∧ ∀ b ∈ w, letter b = some b) → ∀ (cur : W) (acc : List W) (v : W), v ∈ (((joinW c ws).map some ++ [none]).foldl stepW (cur, acc)).2 ↔ (cur ≠ [] ∧ v = cur) ∨ v ∈ acc ∨ v ∈ ws
  | [], _, cur, acc, v => by
    simp only [joinW, List.flatMap_nil, List.map_nil, List.nil_append, List.foldl_cons, List.foldl_nil, List.not_mem_nil, or_false]
    exact mem_flush
  | w :: ws, h, cur, acc, v => by
    have e : (joinW c (w :: ws)).map some ++ [none] = some c :: (w.map some ++ ((joinW c ws).map some ++ [none])) := by simp [joinW]
    have s1 : stepW (cur, acc) (some c) = ([], flush cur acc) := by simp [stepW, hc]
    obtain ⟨h1, h2⟩ := h w (by simp)
    rw [e, List.foldl_cons, s1, List.foldl_append, fold_word w h2, fold_join hc ws (fun w hw => h w (by simp [hw])), List.nil_append, mem_flush]
    simp only [List.mem_cons]
    constructor
    · rintro (g | (g | g) | g)
      · exact .inr (.inr (.inl g.2))
      · exact .inl g
      · exact .inr (.inl g)
      · exact .inr (.inr (.inr g))
    · rintro (g | g | g | g)
      · exact .inr (.inl (.inl g))
      · exact .inr (.inl (.inr g))
      · exact .inl ⟨h1, g⟩
      · exact .inr (.inr g)
theorem words_join {c : UInt8} (hc : letter c = none) (s : W) : wordsOf (joinW c (wordsOf s)) = wordsOf s := by
  have hk := wordsOk c s _ (Nat.le_refl _)
  rw [scanK_all] at hk
  refine wordsOf_eq (wordsOf_asc s) fun w => ?_
  rw [show (scanW (joinW c (wordsOf s))).2 = (((joinW c (wordsOf s)).map some ++ [none]).foldl stepW ([], [])).2 from rfl, fold_join hc _ (fun w hw => hk.acc w (mem_wordsOf.1 hw))]
  simp
theorem join_len (c : UInt8) (s : W) : (joinW c (wordsOf s)).length ≤ s.length + 1 := by
  have hk := (wordsOk c s _ (Nat.le_refl _)).len
  rw [scanK_all] at hk
  have hp : (joinW c (wordsOf s)).Perm (joinW c (scanW s).2) := (List.mergeSort_perm _ _).flatMap_right _
  rw [hp.length_eq]; omega
theorem join_take (c : UInt8) (ws : List W) {k : Nat} {w : W} (h : ws[k]? = some w) : joinW c (ws.take (k + 1)) = joinW c (ws.take k) ++ [c] ++ w := by
  rw [List.take_add_one, h]; simp [joinW]
theorem join_pre (c : UInt8) (ws : List W) (k : Nat) : (joinW c (ws.take k)).length ≤ (joinW c ws).length := by
  have e : joinW c ws = joinW c (ws.take k) ++ joinW c (ws.drop k) := by
    unfold joinW; rw [← List.flatMap_append, List.take_append_drop]
  rw [e, List.length_append]; omega

theorem words3 (s : W) (c : UInt8) : callA Try.prog 3 [.d (.str s), .d (u8D c)] [] fun r _ => r = .d (.bool true) := by
  refine w3.go fun K hK => ?_
  simp only [e3, c3, p3, Try.f3, codeOf, comp, opsOf, stOf, cop, cstp, copAt, planFor, List.find?, List.find?_nil, Option.map_none, Option.getD_none, List.any_cons, List.any_nil, Stp.idx, Bool.or_false, Nat.reduceBEq, ↓RP, RS, Int.reduceBEq, Int.reduceBNe, Int.reduceLT, Int.reduceLE, Int.reduceAdd, Int.reduceSub, ↓reduceIte, Nat.reduceAdd, Nat.reduceMul, Nat.reduceSub, Nat.reduceLT, Nat.reduceLeDiff, Nat.reduceEqDiff, decide_true, decide_false, fieldAddrF, undE, tupE, W3]
  refine CallK_use' (small8 []) fun v0 s1 ⟨q1, q2⟩ => ?_
  subst q1; rw [q2]
  simp only [↓RP, RS, Int.reduceBEq, Int.reduceBNe, Int.reduceLT, Int.reduceLE, Int.reduceAdd, Int.reduceSub, ↓reduceIte, Nat.reduceAdd, Nat.reduceMul, Nat.reduceSub, Nat.reduceLT, Nat.reduceLeDiff, Nat.reduceEqDiff, decide_true, decide_false, fieldAddrF, undE, tupE, W3]
  by_cases hl : s.length ≤ 2000
  · have e0 : decide (2000 < (s.length : Int)) = false := decide_eq_false (by omega)
    have hwl := wordsOf_len s
    simp only [e0, ↓RP, RS, Int.reduceBEq, Int.reduceBNe, Int.reduceLT, Int.reduceLE, Int.reduceAdd, Int.reduceSub, ↓reduceIte, Nat.reduceAdd, Nat.reduceMul, Nat.reduceSub, Nat.reduceLT, Nat.reduceLeDiff, Nat.reduceEqDiff, decide_true, decide_false, fieldAddrF, undE, tupE, W3]
    refine CallK_use' (words9 s (by omega) []) fun v0 s2 ⟨q1, q2⟩ => ?_
    subst q1; rw [q2]
    simp only [↓RP, RS, Int.reduceBEq, Int.reduceBNe, Int.reduceLT, Int.reduceLE, Int.reduceAdd, Int.reduceSub, ↓reduceIte, Nat.reduceAdd, Nat.reduceMul, Nat.reduceSub, Nat.reduceLT, Nat.reduceLeDiff, Nat.reduceEqDiff, decide_true, decide_false, fieldAddrF, undE, tupE, W3]
    refine CallK_use' (words11 s (by omega) []) fun v0 s3 ⟨q1, q2⟩ => ?_
    subst q1; rw [q2]
    simp only [↓RP, RS, Int.reduceBEq, Int.reduceBNe, Int.reduceLT, Int.reduceLE, Int.reduceAdd, Int.reduceSub, ↓reduceIte, Nat.reduceAdd, Nat.reduceMul, Nat.reduceSub, Nat.reduceLT, Nat.reduceLeDiff, Nat.reduceEqDiff, decide_true, decide_false, fieldAddrF, undE, tupE, W3]
    refine CallK_use' (same10 (.val (wordsOf s)) (.val (wordsOf s)) (by omega)) fun v0 s4 ⟨q1, q2⟩ => ?_
    subst q1; rw [q2]
    have es : decide (wordsOf s = wordsOf s) = true := decide_eq_true rfl
    simp only [es, ↓RP, RS, Int.reduceBEq, Int.reduceBNe, Int.reduceLT, Int.reduceLE, Int.reduceAdd, Int.reduceSub, ↓reduceIte, Nat.reduceAdd, Nat.reduceMul, Nat.reduceSub, Nat.reduceLT, Nat.reduceLeDiff, Nat.reduceEqDiff, decide_true, decide_false, fieldAddrF, undE, tupE, W3]
    refine CallK_use' (letter12 c []) fun v0 s5 ⟨q1, q2⟩ => ?_
    subst q1; rw [q2]
    cases hc : letter c with
    | some c' =>
      have fl : letR c = .int .u8 (c'.toNat : Int) := by simp [letR, hc, u8D]
      have z1 : ((c'.toNat : Int) != 0) = true := by have := (letter_ok hc).1; simpa using this
      simp only [fl, z1, ↓RP, RS, Int.reduceBEq, Int.reduceBNe, Int.reduceLT, Int.reduceLE, Int.reduceAdd, Int.reduceSub, ↓reduceIte, Nat.reduceAdd, Nat.reduceMul, Nat.reduceSub, Nat.reduceLT, Nat.reduceLeDiff, Nat.reduceEqDiff, decide_true, decide_false, fieldAddrF, undE, tupE, W3]
      exact hK.ret (by rfl) rfl
    | none =>
      have fl : letR c = .int .u8 0 := by simp [letR, hc]
      have z0 : ((0 : Int) != 0) = false := rfl
      have hjl := join_len c s
      simp only [fl, z0, wordsD, List.toList_toArray, ↓RP, RS, Int.reduceBEq, Int.reduceBNe, Int.reduceLT, Int.reduceLE, Int.reduceAdd, Int.reduceSub, ↓reduceIte, Nat.reduceAdd, Nat.reduceMul, Nat.reduceSub, Nat.reduceLT, Nat.reduceLeDiff, Nat.reduceEqDiff, decide_true, decide_false, fieldAddrF, undE, tupE, W3]
      refine Loop_k [1, 5, 6, 7, 8, 9] (fun k : Nat => fr 0 56 [(1, .d (u8D c)), (5, .d (.bool true)), (6, .d (.lst 1 ((wordsOf s).map .str))), (7, .d (.bool true)), (8, .d (.str (joinW c ((wordsOf s).take k)))), (9, .d (.int .i64 k))]) (fun _ => []) (fun k => k ≤ (wordsOf s).length) (fun k => (wordsOf s).length - k) 0 (by kernel_rfl) rfl (Nat.zero_le _) fun k hk => ?_
      have lw := LstAt.val (σ := []) (wordsOf s)
      have l1 := lw.len
      have hpre := join_pre c (wordsOf s) k
      by_cases hlt : k < (wordsOf s).length
      · have e3 : decide ((k : Int) < ((wordsOf s).length : Int)) = true := decide_eq_true (by omega)
        have w1 : IntKind.i64.wrap ((k : Int) + 1) = ((k + 1 : Nat) : Int) := by rw [IntWalk.i64_in _ (by omega)]; rfl
        obtain ⟨w, gw⟩ : ∃ w, (wordsOf s)[k]? = some w := ⟨_, List.getElem?_eq_getElem hlt⟩
        obtain ⟨ad, y1, y2⟩ := lw.get gw
        have bd : ∀ (s' : List V), get s' (.tmp 36) = .d (u8D c) → buildSliceD Try.prog 27 1 [] s' [(0, .tmp 36)] = some (.d (.lst 1 [u8D c])) := fun s' hs => by
          simp only [buildSliceD, W3, inOrder, toDs, hs, toD, u8D, flatOk, D.csz, D.cells, List.all_cons, List.all_nil, one1, beq_self_eq_true, if_true, Option.map_some, List.length_cons, List.length_nil]
          rfl
        have cv : convF Try.prog 27 9 [] (.d (.lst 1 [u8D c])) = some (.d (.str [c])) := by
          have := bytesOf_u8D [c]
          rw [List.map_cons, List.map_nil] at this
          simp only [convF, W3, slD, this, if_true, and_self, Option.map_some]
        have hjt := join_take c (wordsOf s) gw
        have hjn := join_pre c (wordsOf s) (k + 1)
        rw [hjt] at hjn
        have sb1 : strBin .add (joinW c ((wordsOf s).take k)) [c] = some (.str (joinW c ((wordsOf s).take k) ++ [c])) := by simp only [strBin]; rw [if_pos (by simp; omega)]
        have sb2 : strBin .add (joinW c ((wordsOf s).take k) ++ [c]) w = some (.str (joinW c ((wordsOf s).take k) ++ [c] ++ w)) := by simp only [strBin]; rw [if_pos (by simp at hjn ⊢; omega)]
        simp only [fr, ↓RP, RS, Int.reduceBEq, Int.reduceBNe, Int.reduceLT, Int.reduceLE, Int.reduceAdd, Int.reduceSub, ↓reduceIte, Nat.reduceAdd, Nat.reduceMul, Nat.reduceSub, Nat.reduceLT, Nat.reduceLeDiff, Nat.reduceEqDiff, decide_true, decide_false, fieldAddrF, undE, tupE, W3, l1, e3, bd, List.toList_toArray, cv, y1, y2, sb1, sb2, w1]
        exact seqK_n ⟨k + 1, hlt, by omega, by rw [hjt]; kernel_rfl, rfl⟩
      · have e3 : decide ((k : Int) < ((wordsOf s).length : Int)) = false := decide_eq_false (by omega)
        simp only [fr, ↓RP, RS, Int.reduceBEq, Int.reduceBNe, Int.reduceLT, Int.reduceLE, Int.reduceAdd, Int.reduceSub, ↓reduceIte, Nat.reduceAdd, Nat.reduceMul, Nat.reduceSub, Nat.reduceLT, Nat.reduceLeDiff, Nat.reduceEqDiff, decide_true, decide_false, fieldAddrF, undE, tupE, W3, l1, e3]
        rw [List.take_of_length_le (by omega)]
        refine CallK_use' (words9 _ (by omega) []) fun v0 s6 ⟨q1, q2⟩ => ?_
        subst q1; rw [q2]
        simp only [↓RP, RS, Int.reduceBEq, Int.reduceBNe, Int.reduceLT, Int.reduceLE, Int.reduceAdd, Int.reduceSub, ↓reduceIte, Nat.reduceAdd, Nat.reduceMul, Nat.reduceSub, Nat.reduceLT, Nat.reduceLeDiff, Nat.reduceEqDiff, decide_true, decide_false, fieldAddrF, undE, tupE, W3]
        refine CallK_use' (same10 (.val (wordsOf (joinW c (wordsOf s)))) (.val (wordsOf s)) (by rw [words_join hc]; omega)) fun v0 s7 ⟨q1, q2⟩ => ?_
        subst q1; rw [q2]
        have ej : decide (wordsOf (joinW c (wordsOf s)) = wordsOf s) = true := decide_eq_true (words_join hc s)
        simp only [ej, ↓RP, RS, Int.reduceBEq, Int.reduceBNe, Int.reduceLT, Int.reduceLE, Int.reduceAdd, Int.reduceSub, ↓reduceIte, Nat.reduceAdd, Nat.reduceMul, Nat.reduceSub, Nat.reduceLT, Nat.reduceLeDiff, Nat.reduceEqDiff, decide_true, decide_false, fieldAddrF, undE, tupE, W3]
        exact hK.ret (by rfl) rfl
  · have e0 : decide (2000 < (s.length : Int)) = true := decide_eq_true (by omega)
    simp only [e0, ↓RP, RS, Int.reduceBEq, Int.reduceBNe, Int.reduceLT, Int.reduceLE, Int.reduceAdd, Int.reduceSub, ↓reduceIte, Nat.reduceAdd, Nat.reduceMul, Nat.reduceSub, Nat.reduceLT, Nat.reduceLeDiff, Nat.reduceEqDiff, decide_true, decide_false, fieldAddrF, undE, tupE, W3]
    exact hK.ret (by rfl) rfl
end Go.Proofs.Ytjidelngljpbdaa.Am
