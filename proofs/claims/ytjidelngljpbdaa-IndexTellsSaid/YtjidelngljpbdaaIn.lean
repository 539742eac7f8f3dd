/- The reference: Words; the law IndexWords. -/
import Derived.Test.YtjidelngljpbdaaIm
set_option linter.unusedSimpArgs false
set_option linter.unusedVariables false
set_option maxRecDepth 10000
set_option maxHeartbeats 2000000
namespace Go.Proofs.Ytjidelngljpbdaa.Am
open Go Go.Proofs

theorem LstAt.fin0 {σ : List Ob} {r : V} {l : List W} (h : LstAt σ r l) : Fin 0 r σ (.d (.lst 1 (l.map .str))) [] := by
  cases h with
  | val l => exact Fin.drop0 _ _
  | nil => exact (Fin.le (VLe.nils 1)).trans (Fin.drop0 _ _)
  | @own q off mk l pre post h e =>
    subst e
    have := Fin.frz0 (off := pre.length) (len := l.length) h (by simp)
    rw [List.map_append, List.drop_left' (by simp), List.map_append, List.take_left' (by simp)] at this
    exact this
theorem wordsOf_asc (s : W) : Asc (wordsOf s) := by
  have h := (scanOk s _ (Nat.le_refl _)).nd
  rw [scanK_all] at h
  exact sorted_lt h
theorem wordsOf_eq {s : W} {l : List W} (h : Asc l) (hm : ∀ w, w ∈ l ↔ w ∈ (scanW s).2) : wordsOf s = l :=
  asc_ext (wordsOf_asc s) h fun w => mem_wordsOf.trans (hm w).symm

noncomputable def letC (n : Nat) : Bool := match letter (UInt8.ofNat n) with | some c => decide (c.toNat ≠ 0) && decide (letter c = some c) | none => true
theorem letC_all : (List.range 256).all letC = true := by kernel_rfl
theorem letter_ok {b c : UInt8} (h : letter b = some c) : c.toNat ≠ 0 ∧ letter c = some c := by
  have := List.all_eq_true.1 letC_all b.toNat (by simp; exact b.toNat_lt)
  unfold letC at this
  rw [UInt8.ofNat_toNat, h] at this
  simp only [Bool.and_eq_true, decide_eq_true_eq] at this
  exact this

theorem mem_flush {w cur : W} {acc : List W} : w ∈ flush cur acc ↔ (cur ≠ [] ∧ w = cur) ∨ w ∈ acc := by
  unfold flush addW
  by_cases h : cur = []
  · simp [h]
  · rw [if_neg h]
    split
    · rename_i hm
      constructor
      · exact .inr
      · rintro (⟨_, rfl⟩ | g)
        · exact hm
        · exact g
    · simp only [List.mem_append, List.mem_singleton]
      constructor
      · rintro (g | g)
        · exact .inr g
        · exact .inl ⟨h, g⟩
      · rintro (g | g)
        · exact .inr g.2
        · exact .inl g

set_option maxHeartbeats 4000000 in
theorem words11c (s : W) (hl : s.length ≤ 900000) : callA Try.prog 11 [.d (.str s)] [] fun r σ' => r = .d (wordsD s) ∧ σ' = [] := by
  refine w11.go fun K hK => ?_
  simp only [e11, c11, p11, Try.f11, codeOf, comp, opsOf, stOf, cop, cstp, copAt, planFor, List.find?, List.find?_nil, Option.map_none, Option.getD_none, List.any_cons, List.any_nil, Stp.idx, Bool.or_false, Nat.reduceBEq, ↓RP, RS, Int.reduceBEq, Int.reduceBNe, Int.reduceLT, Int.reduceLE, Int.reduceAdd, Int.reduceSub, ↓reduceIte, Nat.reduceAdd, Nat.reduceMul, Nat.reduceSub, Nat.reduceLT, Nat.reduceLeDiff, Nat.reduceEqDiff, decide_true, decide_false, fieldAddrF, undE, tupE, W11]
  refine Loop_k [0, 3, 4, 5] (fun y : Nat × V × List W × List Ob => fr 0 34 [(0, .d (.str s)), (3, y.2.1), (4, .d (.str (scanK s y.1).1)), (5, .d (.int .i64 y.1))]) (fun y => y.2.2.2)
    (fun y => y.1 ≤ s.length + 1 ∧ LstAt y.2.2.2 y.2.1 y.2.2.1 ∧ Asc y.2.2.1 ∧ (∀ w, w ∈ y.2.2.1 ↔ w ∈ (scanK s y.1).2) ∧ y.2.2.1.length ≤ y.1) (fun y => s.length + 1 - y.1) (0, .d .nils, [], []) (by kernel_rfl) rfl ⟨by simp, .nil, .nil, by simp [scanK_zero], by simp⟩ fun ⟨k, r, out, sk⟩ ⟨hk, hL, hasc, hmem, hol⟩ => ?_
  simp only at hk hL hasc hmem hol ⊢
  have hok := scanOk s k hk
  have hnext := fun (h : k < s.length) => scanK_in s h
  have hlast := scanK_last s
  generalize hx : scanK s k = x at hok hnext hmem ⊢
  obtain ⟨cur, acc⟩ := x
  simp only at hok hnext hmem ⊢
  have hcl : cur.length ≤ k := hok.cur
  by_cases hlt : k < s.length + 1
  · have e3 : decide ((k : Int) ≤ (s.length : Int)) = true := decide_eq_true (by omega)
    have w1 : IntKind.i64.wrap ((k : Int) + 1) = ((k + 1 : Nat) : Int) := by rw [IntWalk.i64_in _ (by omega)]; rfl
    have z0 : ((0 : Int) != 0) = false := rfl
    -- what a round leaves
    have done : ∀ (s' : List V) (σ' : List Ob) (r' : V) (out' : List W) (c' : W) (a' : List W), scanK s (k + 1) = (c', a') → LstAt σ' r' out' → Asc out' → (∀ w, w ∈ out' ↔ w ∈ a') → out'.length ≤ k + 1 → keepS [0, 3, 4, 5] 0 s' = fr 0 34 [(0, .d (.str s)), (3, r'), (4, .d (.str c')), (5, .d (.int .i64 (k + 1 : Nat)))] →
        ∃ y : Nat × V × List W × List Ob, (y.1 ≤ s.length + 1 ∧ LstAt y.2.2.2 y.2.1 y.2.2.1 ∧ Asc y.2.2.1 ∧ (∀ w, w ∈ y.2.2.1 ↔ w ∈ (scanK s y.1).2) ∧ y.2.2.1.length ≤ y.1) ∧ s.length + 1 - y.1 < s.length + 1 - k ∧ keepS [0, 3, 4, 5] 0 s' = fr 0 34 [(0, .d (.str s)), (3, y.2.1), (4, .d (.str (scanK s y.1).1)), (5, .d (.int .i64 y.1))] ∧ σ' = y.2.2.2 := by
      intro s' σ' r' out' c' a' h1 h2 h3 h4 h5 h6
      refine ⟨(k + 1, r', out', σ'), ⟨hlt, h2, h3, by simp only [h1]; exact h4, h5⟩, by simp only; omega, by simp only [h1]; exact h6, rfl⟩
    by_cases hin : k < s.length
    · have e4 : decide ((k : Int) < (s.length : Int)) = true := decide_eq_true (by omega)
      have x1 : indexF Try.prog 9 (.d (.str s)) (.d (.int .i64 (k : Int))) = some (.d (u8D s[k])) := by
        simp only [indexF, W11, Int.toNat_natCast, List.getElem?_eq_getElem hin, true_and]
        rw [if_pos (by omega)]; rfl
      have hn := hnext hin
      simp only [fr, ↓RP, RS, Int.reduceBEq, Int.reduceBNe, Int.reduceLT, Int.reduceLE, Int.reduceAdd, Int.reduceSub, ↓reduceIte, Nat.reduceAdd, Nat.reduceMul, Nat.reduceSub, Nat.reduceLT, Nat.reduceLeDiff, Nat.reduceEqDiff, decide_true, decide_false, fieldAddrF, undE, tupE, W11, e3, e4, x1]
      refine CallK_use' (letter12 s[k] sk) fun v0 s1 ⟨q1, q2⟩ => ?_
      subst q1; rw [q2]
      cases hlt : letter s[k] with
      | some c =>
        have hn' : scanK s (k + 1) = (cur ++ [c], acc) := by rw [hn]; simp [stepW, hlt]
        have fl : letR s[k] = .int .u8 (c.toNat : Int) := by simp [letR, hlt, u8D]
        have z1 : ((c.toNat : Int) != 0) = true := by have := (letter_ok hlt).1; simpa using this
        have bs := fun (s : List V) (hg : get s (.tmp 24) = .d (.int .u8 (c.toNat : Int))) => build9 (σ := sk) (b := c) hg
        have cv := cv_buf (σ := sk ++ [Ob.arr 1 false [u8D c]]) (q := sk.length) (w := [c]) ⟨false, [], by simp⟩
        have sb : strBin .add cur [c] = some (.str (cur ++ [c])) := by simp only [strBin]; rw [if_pos (by simp; omega)]
        rw [List.length_cons, List.length_nil] at cv
        simp only [fl, ↓RP, RS, Int.reduceBEq, Int.reduceBNe, Int.reduceLT, Int.reduceLE, Int.reduceAdd, Int.reduceSub, ↓reduceIte, Nat.reduceAdd, Nat.reduceMul, Nat.reduceSub, Nat.reduceLT, Nat.reduceLeDiff, Nat.reduceEqDiff, decide_true, decide_false, fieldAddrF, undE, tupE, W11, z1, bs, List.toList_toArray, cv, sb, w1]
        exact seqK_n (done _ _ r out _ _ hn' (hL.keep (Keeps.app (fun _ => False) _ _) (fun _ _ _ _ h => h)) hasc hmem (by omega) (by kernel_rfl))
      | none =>
        have fl : letR s[k] = .int .u8 0 := by simp [letR, hlt]
        have hs : stepW (cur, acc) (some s[k]) = ([], flush cur acc) := by simp [stepW, hlt]
        rw [hs] at hn
        simp only [fl, ↓RP, RS, Int.reduceBEq, Int.reduceBNe, Int.reduceLT, Int.reduceLE, Int.reduceAdd, Int.reduceSub, ↓reduceIte, Nat.reduceAdd, Nat.reduceMul, Nat.reduceSub, Nat.reduceLT, Nat.reduceLeDiff, Nat.reduceEqDiff, decide_true, decide_false, fieldAddrF, undE, tupE, W11, z0]
        by_cases hc : cur = []
        · have en : (cur == []) = true := by simpa using hc
          have es : (([] : W) == []) = true := rfl
          rw [show flush cur acc = acc by simp [flush, hc]] at hn
          simp only [strBin, List.toList_toArray, en, ↓RP, RS, Int.reduceBEq, Int.reduceBNe, Int.reduceLT, Int.reduceLE, Int.reduceAdd, Int.reduceSub, ↓reduceIte, Nat.reduceAdd, Nat.reduceMul, Nat.reduceSub, Nat.reduceLT, Nat.reduceLeDiff, Nat.reduceEqDiff, decide_true, decide_false, fieldAddrF, undE, tupE, W11, w1]
          exact seqK_n (done _ _ r out _ _ hn hL hasc hmem (by omega) (by rw [hc]; kernel_rfl))
        · have en : (cur == []) = false := by simpa using hc
          simp only [strBin, List.toList_toArray, en, ↓RP, RS, Int.reduceBEq, Int.reduceBNe, Int.reduceLT, Int.reduceLE, Int.reduceAdd, Int.reduceSub, ↓reduceIte, Nat.reduceAdd, Nat.reduceMul, Nat.reduceSub, Nat.reduceLT, Nat.reduceLeDiff, Nat.reduceEqDiff, decide_true, decide_false, fieldAddrF, undE, tupE, W11]
          refine CallK_use' (insert27 hL hasc (by omega) cur) fun v0 s2 ⟨l, g1, g2, g3, g4, g5, g6⟩ => ?_
          simp only [List.toList_toArray, ↓RP, RS, Int.reduceBEq, Int.reduceBNe, Int.reduceLT, Int.reduceLE, Int.reduceAdd, Int.reduceSub, ↓reduceIte, Nat.reduceAdd, Nat.reduceMul, Nat.reduceSub, Nat.reduceLT, Nat.reduceLeDiff, Nat.reduceEqDiff, decide_true, decide_false, fieldAddrF, undE, tupE, W11, w1]
          refine seqK_n (done _ _ v0 l _ _ hn g1 g2 (fun w => ?_) (by omega) (by kernel_rfl))
          rw [g3, mem_flush, hmem]
          simp [hc]
    · have e4 : decide ((k : Int) < (s.length : Int)) = false := decide_eq_false (by omega)
      have hks : k = s.length := by omega
      have hn : scanK s (k + 1) = ([], flush cur acc) := by subst hks; rw [hlast, hx]; rfl
      simp only [fr, ↓RP, RS, Int.reduceBEq, Int.reduceBNe, Int.reduceLT, Int.reduceLE, Int.reduceAdd, Int.reduceSub, ↓reduceIte, Nat.reduceAdd, Nat.reduceMul, Nat.reduceSub, Nat.reduceLT, Nat.reduceLeDiff, Nat.reduceEqDiff, decide_true, decide_false, fieldAddrF, undE, tupE, W11, e3, e4, z0]
      by_cases hc : cur = []
      · have en : (cur == []) = true := by simpa using hc
        have es : (([] : W) == []) = true := rfl
        rw [show flush cur acc = acc by simp [flush, hc]] at hn
        simp only [strBin, List.toList_toArray, en, ↓RP, RS, Int.reduceBEq, Int.reduceBNe, Int.reduceLT, Int.reduceLE, Int.reduceAdd, Int.reduceSub, ↓reduceIte, Nat.reduceAdd, Nat.reduceMul, Nat.reduceSub, Nat.reduceLT, Nat.reduceLeDiff, Nat.reduceEqDiff, decide_true, decide_false, fieldAddrF, undE, tupE, W11, w1]
        exact seqK_n (done _ _ r out _ _ hn hL hasc hmem (by omega) (by rw [hc]; kernel_rfl))
      · have en : (cur == []) = false := by simpa using hc
        simp only [strBin, List.toList_toArray, en, ↓RP, RS, Int.reduceBEq, Int.reduceBNe, Int.reduceLT, Int.reduceLE, Int.reduceAdd, Int.reduceSub, ↓reduceIte, Nat.reduceAdd, Nat.reduceMul, Nat.reduceSub, Nat.reduceLT, Nat.reduceLeDiff, Nat.reduceEqDiff, decide_true, decide_false, fieldAddrF, undE, tupE, W11]
        refine CallK_use' (insert27 hL hasc (by omega) cur) fun v0 s2 ⟨l, g1, g2, g3, g4, g5, g6⟩ => ?_
        simp only [List.toList_toArray, ↓RP, RS, Int.reduceBEq, Int.reduceBNe, Int.reduceLT, Int.reduceLE, Int.reduceAdd, Int.reduceSub, ↓reduceIte, Nat.reduceAdd, Nat.reduceMul, Nat.reduceSub, Nat.reduceLT, Nat.reduceLeDiff, Nat.reduceEqDiff, decide_true, decide_false, fieldAddrF, undE, tupE, W11, w1]
        refine seqK_n (done _ _ v0 l _ _ hn g1 g2 (fun w => ?_) (by omega) (by kernel_rfl))
        rw [g3, mem_flush, hmem]
        simp [hc]
  · have e3 : decide ((k : Int) ≤ (s.length : Int)) = false := decide_eq_false (by omega)
    simp only [fr, ↓RP, RS, Int.reduceBEq, Int.reduceBNe, Int.reduceLT, Int.reduceLE, Int.reduceAdd, Int.reduceSub, ↓reduceIte, Nat.reduceAdd, Nat.reduceMul, Nat.reduceSub, Nat.reduceLT, Nat.reduceLeDiff, Nat.reduceEqDiff, decide_true, decide_false, fieldAddrF, undE, tupE, W11, e3]
    have hks : k = s.length + 1 := by omega
    have hw : (scanW s).2 = acc := by rw [← scanK_all, ← hks, hx]
    refine hK.fin (by rfl) hL.fin0 ⟨?_, rfl⟩
    rw [wordsD, wordsOf_eq hasc fun w => by rw [hw]; exact hmem w]
theorem words11 (s : W) (hl : s.length ≤ 900000) (τ : List Ob) : callA Try.prog 11 [.d (.str s)] τ fun r σ' => r = .d (wordsD s) ∧ σ' = τ := callA_val (words11c s hl) τ rfl
end Go.Proofs.Ytjidelngljpbdaa.Am
