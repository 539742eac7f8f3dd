/- The law IndexCases: letters and their capitals. -/
import Derived.Test.YtjidelngljpbdaaIk
set_option linter.unusedSimpArgs false
set_option linter.unusedVariables false
set_option maxRecDepth 10000
set_option maxHeartbeats 2000000
namespace Go.Proofs.Ytjidelngljpbdaa.Am
open Go Go.Proofs

/-! ### the words hang on the letters alone -/
def stepO (x : W × List W) (o : Option UInt8) : W × List W := match o with | some c => (x.1 ++ [c], x.2) | none => ([], flush x.1 x.2)
theorem scanW_letters (s : W) : scanW s = (s.map letter ++ [none]).foldl stepO ([], []) := by
  unfold scanW
  have : ∀ (l : List (Option UInt8)) (x : W × List W), l.foldl stepW x = (l.map fun b => b.bind letter).foldl stepO x := by
    intro l
    induction l with
    | nil => intro x; rfl
    | cons b l ih => intro x; rw [List.foldl_cons, ih, List.map_cons, List.foldl_cons]; rfl
  rw [this]
  congr 1
  simp
theorem wordsOf_letters {s s' : W} (h : s.map letter = s'.map letter) : wordsOf s = wordsOf s' := by
  unfold wordsOf
  rw [scanW_letters, scanW_letters, h]

noncomputable def capB (n : Nat) : Bool := decide (97 ≤ n ∧ n ≤ 122 → letter (UInt8.ofNat n) = letter (UInt8.ofNat n - 32) ∧ IntKind.u8.wrap (IntKind.u8.wrap ((n : Int) - 97) + 65) = (((UInt8.ofNat n - 32).toNat : Nat) : Int))
theorem capB_all : (List.range 256).all capB = true := by kernel_rfl
theorem cap_ok (b : UInt8) (h : 97 ≤ b.toNat) (h2 : b.toNat ≤ 122) : letter (b - 32) = letter b ∧ IntKind.u8.wrap (IntKind.u8.wrap ((b.toNat : Int) - 97) + 65) = (((b - 32).toNat : Nat) : Int) := by
  have := List.all_eq_true.1 capB_all b.toNat (by simp; exact b.toNat_lt)
  have := of_decide_eq_true this ⟨h, h2⟩
  rw [UInt8.ofNat_toNat] at this
  exact ⟨this.1.symm, this.2⟩

theorem load_u8 {σ : List Ob} {o k : Nat} {mk : Bool} {bs : W} (h : σ[o]? = some (.arr 1 mk (bs.map u8D))) {c : UInt8} (hc : bs[k]? = some c) : loadF Try.prog 5 σ (.ptr o k 0) = some (.d (.int .u8 (c.toNat : Int))) := by
  simp only [loadF, h, List.getElem?_map, hc, Option.map_some, u8D, D.csz, if_true, D.cells, List.drop_zero]
  kernel_rfl
theorem store_u8 {σ : List Ob} {o k : Nat} {mk : Bool} {bs : W} (h : σ[o]? = some (.arr 1 mk (bs.map u8D))) (hk : k < bs.length) (c : UInt8) : storeF Try.prog 5 σ (.ptr o k 0) (.d (.int .u8 (c.toNat : Int))) = some (σ.set o (.arr 1 mk ((bs.set k c).map u8D))) := by
  have hz : szOf Try.prog 5 = 1 := by simp only [T5]
  simp only [storeF, h, List.getElem?_map, List.getElem?_eq_getElem hk, Option.map_some, toD, flatOk, hz, D.csz, D.cells, List.all_cons, List.all_nil, one1, beq_self_eq_true, Bool.and_self, Nat.lt_irrefl, Nat.one_pos, Nat.zero_lt_one, and_self, if_true, List.map_set, u8D]

theorem cases7 (s : W) (wh : List D) (hwh : ∀ e ∈ wh, ∃ b, e = .bool b) : callA Try.prog 7 [.d (.str s), .d (.lst 1 wh)] [] fun r _ => r = .d (.bool true) := by
  refine w7.go fun K hK => ?_
  simp only [e7, c7, p7, Try.f7, codeOf, comp, opsOf, stOf, cop, cstp, copAt, planFor, List.find?, List.find?_nil, Option.map_none, Option.getD_none, List.any_cons, List.any_nil, Stp.idx, Bool.or_false, Nat.reduceBEq, ↓RP, RS, Int.reduceBEq, Int.reduceBNe, Int.reduceLT, Int.reduceLE, Int.reduceAdd, Int.reduceSub, ↓reduceIte, Nat.reduceAdd, Nat.reduceMul, Nat.reduceSub, Nat.reduceLT, Nat.reduceLeDiff, Nat.reduceEqDiff, decide_true, decide_false, fieldAddrF, undE, tupE, W7]
  refine CallK_use' (small8 []) fun v0 s1 ⟨q1, q2⟩ => ?_
  subst q1; rw [q2]
  simp only [↓RP, RS, Int.reduceBEq, Int.reduceBNe, Int.reduceLT, Int.reduceLE, Int.reduceAdd, Int.reduceSub, ↓reduceIte, Nat.reduceAdd, Nat.reduceMul, Nat.reduceSub, Nat.reduceLT, Nat.reduceLeDiff, Nat.reduceEqDiff, decide_true, decide_false, fieldAddrF, undE, tupE, W7]
  by_cases hl : s.length ≤ 2000
  · have e0 : decide (2000 < (s.length : Int)) = false := decide_eq_false (by omega)
    have cv : cvF Try.prog 9 27 [] (.d (.str s)) = some (.sl 0 0 s.length, [.arr 1 true (s.map u8D)]) := by
      simp only [cvF, convF, strBytesF, W7, and_self, if_true, Bool.false_eq_true, if_false]; rfl
    simp only [e0, ↓RP, RS, Int.reduceBEq, Int.reduceBNe, Int.reduceLT, Int.reduceLE, Int.reduceAdd, Int.reduceSub, ↓reduceIte, Nat.reduceAdd, Nat.reduceMul, Nat.reduceSub, Nat.reduceLT, Nat.reduceLeDiff, Nat.reduceEqDiff, decide_true, decide_false, fieldAddrF, undE, tupE, W7, cv]
    refine Loop_k [0, 1, 5, 6, 7] (fun y : Nat × W => fr 0 65 [(0, .d (.str s)), (1, .d (.lst 1 wh)), (5, .d (.bool true)), (6, .sl 0 0 s.length), (7, .d (.int .i64 y.1))]) (fun y => [.arr 1 true (y.2.map u8D)]) (fun y => y.1 ≤ s.length ∧ y.2.length = s.length ∧ y.2.map letter = s.map letter) (fun y => s.length - y.1) (0, s) (by kernel_rfl) rfl ⟨Nat.zero_le _, rfl, rfl⟩ fun ⟨k, bs⟩ ⟨hk, hbl, hlt⟩ => ?_
    simp only at hk hbl hlt ⊢
    have g0 : [Ob.arr 1 true (bs.map u8D)][0]? = some (.arr 1 true (bs.map u8D)) := rfl
    have a0 : alive [Ob.arr 1 true (bs.map u8D)] 0 = true := alive_of g0 (by simp)
    have cvq : convF Try.prog 27 9 [Ob.arr 1 true (bs.map u8D)] (.sl 0 0 s.length) = some (.d (.str bs)) := by
      have e : slD [Ob.arr 1 true (bs.map u8D)] (.sl 0 0 s.length) = some (bs.map u8D) := by
        simp only [slD, g0, List.drop_zero, List.length_map]
        rw [if_pos (by omega), List.take_of_length_le (by simp; omega)]
      simp only [convF, W7, arrSz, g0, e, bytesOf_u8D, if_true, and_self, Option.map_some]
    by_cases h1 : k < s.length
    · have e1 : decide ((k : Int) < (s.length : Int)) = true := decide_eq_true (by omega)
      by_cases h2 : k < wh.length
      · have e2 : decide ((k : Int) < (wh.length : Int)) = true := decide_eq_true (by omega)
        have w1 : IntKind.i64.wrap ((k : Int) + 1) = ((k + 1 : Nat) : Int) := by rw [IntWalk.i64_in _ (by omega)]; rfl
        obtain ⟨c, hc⟩ : ∃ c, bs[k]? = some c := ⟨_, List.getElem?_eq_getElem (by omega)⟩
        obtain ⟨b, hb⟩ := hwh _ (List.getElem_mem h2)
        have x1 := index_lst1 (P := Try.prog) (t := 47) (e := 4) (σ := [Ob.arr 1 true (bs.map u8D)]) (es := wh) (kd := .i64) (j := k) (d := .bool b) (by simp only [W7]) (by simp only [W7]) (by rw [List.getElem?_eq_getElem h2, hb]) rfl
        have y1 : loadF Try.prog 4 [Ob.arr 1 true (bs.map u8D)] (.ipt [.bool b]) = some (.d (.bool b)) := ld_ipt rfl (by simp only [W7]) (by simp only [W7])
        have x2 : indexAddrF Try.prog 27 [Ob.arr 1 true (bs.map u8D)] (.sl 0 0 s.length) (.d (.int .i64 (k : Int))) = some (.ptr 0 (0 + k) 0) := index_arr (P := Try.prog) (t := 27) (e := 5) g0 (by simp only [W7]) (by simp only [W7]) (by omega) h1
        rw [Nat.zero_add] at x2
        have y2 := load_u8 g0 hc
        cases b with
        | false =>
          simp only [fr, ↓RP, RS, Int.reduceBEq, Int.reduceBNe, Int.reduceLT, Int.reduceLE, Int.reduceAdd, Int.reduceSub, ↓reduceIte, Nat.reduceAdd, Nat.reduceMul, Nat.reduceSub, Nat.reduceLT, Nat.reduceLeDiff, Nat.reduceEqDiff, decide_true, decide_false, fieldAddrF, undE, tupE, W7, a0, e1, e2, x1, y1, w1]
          exact seqK_n ⟨(k + 1, bs), ⟨h1, hbl, hlt⟩, by simp only; omega, by kernel_rfl, rfl⟩
        | true =>
          by_cases h3 : 97 ≤ c.toNat
          · have e3 : decide ((97 : Int) ≤ (c.toNat : Int)) = true := decide_eq_true (by omega)
            by_cases h4 : c.toNat ≤ 122
            · have e4 : decide ((c.toNat : Int) ≤ (122 : Int)) = true := decide_eq_true (by omega)
              obtain ⟨q1, q2⟩ := cap_ok c h3 h4
              have st := store_u8 g0 (k := k) (by omega) (c - 32)
              simp only [fr, ↓RP, RS, Int.reduceBEq, Int.reduceBNe, Int.reduceLT, Int.reduceLE, Int.reduceAdd, Int.reduceSub, ↓reduceIte, Nat.reduceAdd, Nat.reduceMul, Nat.reduceSub, Nat.reduceLT, Nat.reduceLeDiff, Nat.reduceEqDiff, decide_true, decide_false, fieldAddrF, undE, tupE, W7, a0, e1, e2, x1, y1, x2, y2, e3, e4, q2, st, w1]
              refine seqK_n ⟨(k + 1, bs.set k (c - 32)), ⟨h1, by simpa using hbl, ?_⟩, by simp only; omega, by kernel_rfl, rfl⟩
              rw [List.map_set, q1, ← hlt]
              refine set_same ?_
              rw [List.getElem?_map, hc]; rfl
            · have e4 : decide ((c.toNat : Int) ≤ (122 : Int)) = false := decide_eq_false (by omega)
              simp only [fr, ↓RP, RS, Int.reduceBEq, Int.reduceBNe, Int.reduceLT, Int.reduceLE, Int.reduceAdd, Int.reduceSub, ↓reduceIte, Nat.reduceAdd, Nat.reduceMul, Nat.reduceSub, Nat.reduceLT, Nat.reduceLeDiff, Nat.reduceEqDiff, decide_true, decide_false, fieldAddrF, undE, tupE, W7, a0, e1, e2, x1, y1, x2, y2, e3, e4, w1]
              exact seqK_n ⟨(k + 1, bs), ⟨h1, hbl, hlt⟩, by simp only; omega, by kernel_rfl, rfl⟩
          · have e3 : decide ((97 : Int) ≤ (c.toNat : Int)) = false := decide_eq_false (by omega)
            simp only [fr, ↓RP, RS, Int.reduceBEq, Int.reduceBNe, Int.reduceLT, Int.reduceLE, Int.reduceAdd, Int.reduceSub, ↓reduceIte, Nat.reduceAdd, Nat.reduceMul, Nat.reduceSub, Nat.reduceLT, Nat.reduceLeDiff, Nat.reduceEqDiff, decide_true, decide_false, fieldAddrF, undE, tupE, W7, a0, e1, e2, x1, y1, x2, y2, e3, w1]
            exact seqK_n ⟨(k + 1, bs), ⟨h1, hbl, hlt⟩, by simp only; omega, by kernel_rfl, rfl⟩
      · have e2 : decide ((k : Int) < (wh.length : Int)) = false := decide_eq_false (by omega)
        simp only [fr, ↓RP, RS, Int.reduceBEq, Int.reduceBNe, Int.reduceLT, Int.reduceLE, Int.reduceAdd, Int.reduceSub, ↓reduceIte, Nat.reduceAdd, Nat.reduceMul, Nat.reduceSub, Nat.reduceLT, Nat.reduceLeDiff, Nat.reduceEqDiff, decide_true, decide_false, fieldAddrF, undE, tupE, W7, a0, e1, e2, cvq]
        refine CallK_use (words9 s (by omega) _) fun v0 s2 ⟨q1, q2⟩ => ⟨?_, ?_⟩
        · subst q1; rw [q2]
          simp only [chkC, wantC, ↓RP, RS, Int.reduceBEq, Int.reduceBNe, Int.reduceLT, Int.reduceLE, Int.reduceAdd, Int.reduceSub, ↓reduceIte, Nat.reduceAdd, Nat.reduceMul, Nat.reduceSub, Nat.reduceLT, Nat.reduceLeDiff, Nat.reduceEqDiff, decide_true, decide_false, fieldAddrF, undE, tupE, W7, a0, cvq]
        subst q1; rw [q2]
        simp only [↓RP, RS, Int.reduceBEq, Int.reduceBNe, Int.reduceLT, Int.reduceLE, Int.reduceAdd, Int.reduceSub, ↓reduceIte, Nat.reduceAdd, Nat.reduceMul, Nat.reduceSub, Nat.reduceLT, Nat.reduceLeDiff, Nat.reduceEqDiff, decide_true, decide_false, fieldAddrF, undE, tupE, W7]
        refine CallK_use' (words9 bs (by omega) _) fun v0 s3 ⟨q1, q2⟩ => ?_
        subst q1; rw [q2]
        simp only [↓RP, RS, Int.reduceBEq, Int.reduceBNe, Int.reduceLT, Int.reduceLE, Int.reduceAdd, Int.reduceSub, ↓reduceIte, Nat.reduceAdd, Nat.reduceMul, Nat.reduceSub, Nat.reduceLT, Nat.reduceLeDiff, Nat.reduceEqDiff, decide_true, decide_false, fieldAddrF, undE, tupE, W7]
        refine CallK_use' (same10 (.val (wordsOf s)) (.val (wordsOf bs)) (by have := wordsOf_len s; omega)) fun v0 s4 ⟨q1, q2⟩ => ?_
        subst q1; rw [q2]
        have es : decide (wordsOf s = wordsOf bs) = true := decide_eq_true (wordsOf_letters hlt.symm)
        simp only [es, ↓RP, RS, Int.reduceBEq, Int.reduceBNe, Int.reduceLT, Int.reduceLE, Int.reduceAdd, Int.reduceSub, ↓reduceIte, Nat.reduceAdd, Nat.reduceMul, Nat.reduceSub, Nat.reduceLT, Nat.reduceLeDiff, Nat.reduceEqDiff, decide_true, decide_false, fieldAddrF, undE, tupE, W7]
        exact hK.ret (by rfl) rfl
    · have e1 : decide ((k : Int) < (s.length : Int)) = false := decide_eq_false (by omega)
      simp only [fr, ↓RP, RS, Int.reduceBEq, Int.reduceBNe, Int.reduceLT, Int.reduceLE, Int.reduceAdd, Int.reduceSub, ↓reduceIte, Nat.reduceAdd, Nat.reduceMul, Nat.reduceSub, Nat.reduceLT, Nat.reduceLeDiff, Nat.reduceEqDiff, decide_true, decide_false, fieldAddrF, undE, tupE, W7, a0, e1, cvq]
      refine CallK_use (words9 s (by omega) _) fun v0 s2 ⟨q1, q2⟩ => ⟨?_, ?_⟩
      · subst q1; rw [q2]
        simp only [chkC, wantC, ↓RP, RS, Int.reduceBEq, Int.reduceBNe, Int.reduceLT, Int.reduceLE, Int.reduceAdd, Int.reduceSub, ↓reduceIte, Nat.reduceAdd, Nat.reduceMul, Nat.reduceSub, Nat.reduceLT, Nat.reduceLeDiff, Nat.reduceEqDiff, decide_true, decide_false, fieldAddrF, undE, tupE, W7, a0, cvq]
      subst q1; rw [q2]
      simp only [↓RP, RS, Int.reduceBEq, Int.reduceBNe, Int.reduceLT, Int.reduceLE, Int.reduceAdd, Int.reduceSub, ↓reduceIte, Nat.reduceAdd, Nat.reduceMul, Nat.reduceSub, Nat.reduceLT, Nat.reduceLeDiff, Nat.reduceEqDiff, decide_true, decide_false, fieldAddrF, undE, tupE, W7]
      refine CallK_use' (words9 bs (by omega) _) fun v0 s3 ⟨q1, q2⟩ => ?_
      subst q1; rw [q2]
      simp only [↓RP, RS, Int.reduceBEq, Int.reduceBNe, Int.reduceLT, Int.reduceLE, Int.reduceAdd, Int.reduceSub, ↓reduceIte, Nat.reduceAdd, Nat.reduceMul, Nat.reduceSub, Nat.reduceLT, Nat.reduceLeDiff, Nat.reduceEqDiff, decide_true, decide_false, fieldAddrF, undE, tupE, W7]
      refine CallK_use' (same10 (.val (wordsOf s)) (.val (wordsOf bs)) (by have := wordsOf_len s; omega)) fun v0 s4 ⟨q1, q2⟩ => ?_
      subst q1; rw [q2]
      have es : decide (wordsOf s = wordsOf bs) = true := decide_eq_true (wordsOf_letters hlt.symm)
      simp only [es, ↓RP, RS, Int.reduceBEq, Int.reduceBNe, Int.reduceLT, Int.reduceLE, Int.reduceAdd, Int.reduceSub, ↓reduceIte, Nat.reduceAdd, Nat.reduceMul, Nat.reduceSub, Nat.reduceLT, Nat.reduceLeDiff, Nat.reduceEqDiff, decide_true, decide_false, fieldAddrF, undE, tupE, W7]
      exact hK.ret (by rfl) rfl
  · have e0 : decide (2000 < (s.length : Int)) = true := decide_eq_true (by omega)
    simp only [e0, ↓RP, RS, Int.reduceBEq, Int.reduceBNe, Int.reduceLT, Int.reduceLE, Int.reduceAdd, Int.reduceSub, ↓reduceIte, Nat.reduceAdd, Nat.reduceMul, Nat.reduceSub, Nat.reduceLT, Nat.reduceLeDiff, Nat.reduceEqDiff, decide_true, decide_false, fieldAddrF, undE, tupE, W7]
    exact hK.ret (by rfl) rfl
end Go.Proofs.Ytjidelngljpbdaa.Am
