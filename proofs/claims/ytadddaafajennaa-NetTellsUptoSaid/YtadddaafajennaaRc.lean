/- The reference: what it holds; what it tells. -/
import Derived.Test.YtadddaafajennaaRb
set_option linter.unusedSimpArgs false
set_option linter.unusedVariables false
set_option maxRecDepth 10000
set_option maxHeartbeats 2000000
namespace Go.Proofs.Ytadddaafajennaa.Am
open Go Go.Proofs

def cutE (c : Int × Int) : D := .lst 1 [.int .i64 c.1, .int .i64 c.2]
def mF : D → Int | .agg cs => (match cs[1]? with | some (D.int _ f) => f | _ => 0) | _ => 0
def mT : D → Int | .agg cs => (match cs[2]? with | some (D.int _ f) => f | _ => 0) | _ => 0
def isFT (f t : Int) (m : D) : Bool := mF m == f && mT m == t
def MsgF (m : D) : Prop := ∃ cs f t, m = .agg cs ∧ cs.length = 34 ∧ cs.all one1 = true ∧ cs[1]? = some (.int .i64 f) ∧ cs[2]? = some (.int .i64 t)

structure RefAt (σ : List Ob) (y n : Nat) (ls : List D) (cuts : List (Int × Int)) : Prop where
  bx : σ[y]? = some (.box [.d (.int .i64 n), .d (.lst 34 ls), .d (.lst 1 (cuts.map cutE))])
  n20 : n ≤ 20
  msg : ∀ m ∈ ls, MsgF m
  fewl : ls.length ≤ 1000
  fewc : cuts.length ≤ 1000

theorem ld_ipt {P : Program} {t : TypeId} {σ : List Ob} {cs r : List D} {d : D} (h : cs = d :: r) (h1 : aggT P t = false) (h2 : okT P t = true) : loadF P t σ (.ipt cs) = some (.d d) := by
  subst h
  simp only [loadF, takeD, h1, h2, Bool.false_eq_true, if_false, if_true]

section
variable {σ : List Ob} {y n : Nat} {ls : List D} {cuts : List (Int × Int)}

theorem RefAt.keep (h : RefAt σ y n ls cuts) {σ' : List Ob} (hk : σ'[y]? = σ[y]?) : RefAt σ' y n ls cuts := ⟨hk.trans h.bx, h.n20, h.msg, h.fewl, h.fewc⟩

theorem is38 (h : RefAt σ y n ls cuts) (f t : Int) : callA Try.prog 38 [.ptr y 0 0, .d (.int .i64 f), .d (.int .i64 t)] σ fun r σ' => r = .d (.bool (decide (isL n f t))) ∧ σ' = σ := by
  refine w38.go fun K hK => ?_
  have a1 := alive_of h.bx (by simp)
  have l0 := load_box (P := Try.prog) (t := 3) (k := 0) h.bx rfl (by simp only [W38]) (by simp only [W38])
  have fin : ∀ s b, resF Try.prog s σ e38.rs = some (.d (.bool b)) → b = decide (isL n f t) → K .ret s σ := fun s b hs hb => hK.ret hs ⟨by rw [hb], by rfl⟩
  unfold isL at fin
  by_cases d1 : 0 ≤ f
  · have d1' : decide (0 ≤ f) = true := by simpa using d1
    by_cases d2 : f < (n : Int)
    · have d2' : decide (f < (n : Int)) = true := by simpa using d2
      by_cases d3 : 0 ≤ t
      · have d3' : decide (0 ≤ t) = true := by simpa using d3
        by_cases d4 : t < (n : Int)
        · have d4' : decide (t < (n : Int)) = true := by simpa using d4
          by_cases d5 : f = t
          · have d5' : (f != t) = false := by simpa using d5
            simp only [e38, c38, p38, Try.f38, codeOf, comp, opsOf, stOf, cop, cstp, copAt, planFor, List.find?, List.find?_nil, Option.map_none, Option.getD_none, List.any_cons, List.any_nil, Stp.idx, Bool.or_false, Nat.reduceBEq, ↓RP, RS, Int.reduceBEq, Int.reduceBNe, Int.reduceLT, Int.reduceLE, Int.reduceAdd, Int.reduceSub, ↓reduceIte, Nat.reduceAdd, Nat.reduceMul, Nat.reduceSub, Nat.reduceLT, Nat.reduceLeDiff, Nat.reduceEqDiff, decide_true, decide_false, fieldAddrF, undE, tupE, W38, a1, fieldAddrF, l0, d1', d2', d3', d4', d5']
            exact fin _ _ rfl (by simp [d5])
          · have d5' : (f != t) = true := by simpa using d5
            simp only [e38, c38, p38, Try.f38, codeOf, comp, opsOf, stOf, cop, cstp, copAt, planFor, List.find?, List.find?_nil, Option.map_none, Option.getD_none, List.any_cons, List.any_nil, Stp.idx, Bool.or_false, Nat.reduceBEq, ↓RP, RS, Int.reduceBEq, Int.reduceBNe, Int.reduceLT, Int.reduceLE, Int.reduceAdd, Int.reduceSub, ↓reduceIte, Nat.reduceAdd, Nat.reduceMul, Nat.reduceSub, Nat.reduceLT, Nat.reduceLeDiff, Nat.reduceEqDiff, decide_true, decide_false, fieldAddrF, undE, tupE, W38, a1, fieldAddrF, l0, d1', d2', d3', d4', d5']
            exact fin _ _ rfl (by simp [d1, d2, d3, d4, d5])
        · have d4' : decide (t < (n : Int)) = false := by simpa using d4
          simp only [e38, c38, p38, Try.f38, codeOf, comp, opsOf, stOf, cop, cstp, copAt, planFor, List.find?, List.find?_nil, Option.map_none, Option.getD_none, List.any_cons, List.any_nil, Stp.idx, Bool.or_false, Nat.reduceBEq, ↓RP, RS, Int.reduceBEq, Int.reduceBNe, Int.reduceLT, Int.reduceLE, Int.reduceAdd, Int.reduceSub, ↓reduceIte, Nat.reduceAdd, Nat.reduceMul, Nat.reduceSub, Nat.reduceLT, Nat.reduceLeDiff, Nat.reduceEqDiff, decide_true, decide_false, fieldAddrF, undE, tupE, W38, a1, fieldAddrF, l0, d1', d2', d3', d4']
          exact fin _ _ rfl (by simp [d4])
      · have d3' : decide (0 ≤ t) = false := by simpa using d3
        simp only [e38, c38, p38, Try.f38, codeOf, comp, opsOf, stOf, cop, cstp, copAt, planFor, List.find?, List.find?_nil, Option.map_none, Option.getD_none, List.any_cons, List.any_nil, Stp.idx, Bool.or_false, Nat.reduceBEq, ↓RP, RS, Int.reduceBEq, Int.reduceBNe, Int.reduceLT, Int.reduceLE, Int.reduceAdd, Int.reduceSub, ↓reduceIte, Nat.reduceAdd, Nat.reduceMul, Nat.reduceSub, Nat.reduceLT, Nat.reduceLeDiff, Nat.reduceEqDiff, decide_true, decide_false, fieldAddrF, undE, tupE, W38, a1, fieldAddrF, l0, d1', d2', d3']
        exact fin _ _ rfl (by simp [d3])
    · have d2' : decide (f < (n : Int)) = false := by simpa using d2
      simp only [e38, c38, p38, Try.f38, codeOf, comp, opsOf, stOf, cop, cstp, copAt, planFor, List.find?, List.find?_nil, Option.map_none, Option.getD_none, List.any_cons, List.any_nil, Stp.idx, Bool.or_false, Nat.reduceBEq, ↓RP, RS, Int.reduceBEq, Int.reduceBNe, Int.reduceLT, Int.reduceLE, Int.reduceAdd, Int.reduceSub, ↓reduceIte, Nat.reduceAdd, Nat.reduceMul, Nat.reduceSub, Nat.reduceLT, Nat.reduceLeDiff, Nat.reduceEqDiff, decide_true, decide_false, fieldAddrF, undE, tupE, W38, a1, fieldAddrF, l0, d1', d2']
      exact fin _ _ rfl (by simp [d2])
  · have d1' : decide (0 ≤ f) = false := by simpa using d1
    simp only [e38, c38, p38, Try.f38, codeOf, comp, opsOf, stOf, cop, cstp, copAt, planFor, List.find?, List.find?_nil, Option.map_none, Option.getD_none, List.any_cons, List.any_nil, Stp.idx, Bool.or_false, Nat.reduceBEq, ↓RP, RS, Int.reduceBEq, Int.reduceBNe, Int.reduceLT, Int.reduceLE, Int.reduceAdd, Int.reduceSub, ↓reduceIte, Nat.reduceAdd, Nat.reduceMul, Nat.reduceSub, Nat.reduceLT, Nat.reduceLeDiff, Nat.reduceEqDiff, decide_true, decide_false, fieldAddrF, undE, tupE, W38, a1, fieldAddrF, l0, d1']
    exact fin _ _ rfl (by simp [d1])

theorem total29 (h : RefAt σ y n ls cuts) : callA Try.prog 29 [.ptr y 0 0] σ fun r σ' => r = .d (.int .i64 ls.length) ∧ σ' = σ := by
  refine w29.go fun K hK => ?_
  have a1 := alive_of h.bx (by simp)
  have l1 := load_box (P := Try.prog) (t := 68) (k := 1) h.bx rfl (by simp only [W29]) (by simp only [W29])
  simp only [e29, c29, p29, Try.f29, codeOf, comp, opsOf, stOf, cop, cstp, copAt, planFor, List.find?, List.find?_nil, Option.map_none, Option.getD_none, List.any_cons, List.any_nil, Stp.idx, Bool.or_false, Nat.reduceBEq, ↓RP, RS, Int.reduceBEq, Int.reduceBNe, Int.reduceLT, Int.reduceLE, Int.reduceAdd, Int.reduceSub, ↓reduceIte, Nat.reduceAdd, Nat.reduceMul, Nat.reduceSub, Nat.reduceLT, Nat.reduceLeDiff, Nat.reduceEqDiff, decide_true, decide_false, fieldAddrF, undE, tupE, W29, a1, fieldAddrF, l1]
  exact hK.ret (by rfl) ⟨by rfl, by rfl⟩

def lenR (ls : List D) (f t : Int) : Nat := (ls.filter (isFT f t)).length
theorem lenR_succ (ls : List D) (f t : Int) {k : Nat} (hk : k < ls.length) : lenR (ls.take (k + 1)) f t = lenR (ls.take k) f t + (if isFT f t ls[k] then 1 else 0) := by
  unfold lenR
  rw [List.take_succ_eq_append_getElem hk, List.filter_append, List.length_append]
  congr 1
  by_cases c : isFT f t ls[k] = true <;> simp [c]
theorem lenR_le (ls : List D) (f t : Int) : lenR ls f t ≤ ls.length := List.length_filter_le _ _

theorem msg_ft {m : D} {cs : List D} {f' t' : Int} (e : m = .agg cs) (h1 : cs[1]? = some (.int .i64 f')) (h2 : cs[2]? = some (.int .i64 t')) (f t : Int) : isFT f t m = ((f' == f) && (t' == t)) := by
  subst e
  simp [isFT, mF, mT, h1, h2]

theorem len25 (h : RefAt σ y n ls cuts) (f t : Int) : callA Try.prog 25 [.ptr y 0 0, .d (.int .i64 f), .d (.int .i64 t)] σ fun r σ' => r = .d (.int .i64 (lenR ls f t : Nat)) ∧ σ' = σ := by
  refine w25.go fun K hK => ?_
  have a1 := alive_of h.bx (by simp)
  have l1 := load_box (P := Try.prog) (t := 68) (k := 1) h.bx rfl (by simp only [W25]) (by simp only [W25])
  have hfew := h.fewl
  simp only [e25, c25, p25, Try.f25, codeOf, comp, opsOf, stOf, cop, cstp, copAt, planFor, List.find?, List.find?_nil, Option.map_none, Option.getD_none, List.any_cons, List.any_nil, Stp.idx, Bool.or_false, Nat.reduceBEq, ↓RP, RS, Int.reduceBEq, Int.reduceBNe, Int.reduceLT, Int.reduceLE, Int.reduceAdd, Int.reduceSub, ↓reduceIte, Nat.reduceAdd, Nat.reduceMul, Nat.reduceSub, Nat.reduceLT, Nat.reduceLeDiff, Nat.reduceEqDiff, decide_true, decide_false, fieldAddrF, undE, tupE, W25, a1]
  refine Loop_k [0, 1, 2, 7, 8] (fun k : Nat => fr 0 43 [(0, .ptr y 0 0), (1, .d (.int .i64 f)), (2, .d (.int .i64 t)), (7, .d (.int .i64 (lenR (ls.take k) f t : Nat))), (8, .d (.int .i64 k))]) (fun _ => σ) (fun k => k ≤ ls.length) (fun k => ls.length - k) 0 (by kernel_rfl) rfl (Nat.zero_le _) fun k hk => ?_
  by_cases hlt : k < ls.length
  · have e3 : decide ((k : Int) < (ls.length : Int)) = true := by simpa using hlt
    obtain ⟨cs, f', t', he, h34, _, c1, c2⟩ := h.msg _ (List.getElem_mem hlt)
    have hft := msg_ft he c1 c2 f t
    have hs := lenR_succ ls f t hlt
    rw [hft] at hs
    have x1 : ∀ σ, indexAddrF Try.prog 68 σ (.d (.lst 34 ls)) (.d (.int .i64 (k : Int))) = some (.ipt cs) := fun σ => index_lst (P := Try.prog) (t := 68) (e := 42) (by simp only [W25]) (by simp only [W25]) (by rw [List.getElem?_eq_getElem hlt, he]) h34
    have x2 : ∀ σ, loadF Try.prog 3 σ (.ipt (cs.drop 1)) = some (.d (.int .i64 f')) := fun σ => ld_ipt (drop_get c1) (by simp only [W25]) (by simp only [W25])
    have x3 : ∀ σ, loadF Try.prog 3 σ (.ipt (cs.drop 2)) = some (.d (.int .i64 t')) := fun σ => ld_ipt (drop_get c2) (by simp only [W25]) (by simp only [W25])
    have w1 : IntKind.i64.wrap ((k : Int) + 1) = ((k + 1 : Nat) : Int) := by rw [IntWalk.i64_in _ (by omega)]; rfl
    have hle := lenR_le (ls.take k) f t
    have hlk : (ls.take k).length ≤ k := by simp; omega
    have w2 : IntKind.i64.wrap ((lenR (ls.take k) f t : Nat) + 1) = ((lenR (ls.take k) f t + 1 : Nat) : Int) := by rw [IntWalk.i64_in _ (by omega)]; rfl
    by_cases g1 : (f' == f) = true
    · by_cases g2 : (t' == t) = true
      · rw [g1, g2] at hs
        simp only [fr, ↓RP, RS, Int.reduceBEq, Int.reduceBNe, Int.reduceLT, Int.reduceLE, Int.reduceAdd, Int.reduceSub, ↓reduceIte, Nat.reduceAdd, Nat.reduceMul, Nat.reduceSub, Nat.reduceLT, Nat.reduceLeDiff, Nat.reduceEqDiff, decide_true, decide_false, fieldAddrF, undE, tupE, W25, a1, l1, e3, x1, x2, x3, g1, g2, w1, w2]
        exact seqK_n ⟨k + 1, by omega, by omega, by rw [hs]; kernel_rfl, rfl⟩
      · have g2' : (t' == t) = false := by simpa using g2
        rw [g1, g2'] at hs
        simp only [fr, ↓RP, RS, Int.reduceBEq, Int.reduceBNe, Int.reduceLT, Int.reduceLE, Int.reduceAdd, Int.reduceSub, ↓reduceIte, Nat.reduceAdd, Nat.reduceMul, Nat.reduceSub, Nat.reduceLT, Nat.reduceLeDiff, Nat.reduceEqDiff, decide_true, decide_false, fieldAddrF, undE, tupE, W25, a1, l1, e3, x1, x2, x3, g1, g2', w1]
        exact seqK_n ⟨k + 1, by omega, by omega, by rw [hs]; kernel_rfl, rfl⟩
    · have g1' : (f' == f) = false := by simpa using g1
      rw [g1'] at hs
      simp only [fr, ↓RP, RS, Int.reduceBEq, Int.reduceBNe, Int.reduceLT, Int.reduceLE, Int.reduceAdd, Int.reduceSub, ↓reduceIte, Nat.reduceAdd, Nat.reduceMul, Nat.reduceSub, Nat.reduceLT, Nat.reduceLeDiff, Nat.reduceEqDiff, decide_true, decide_false, fieldAddrF, undE, tupE, W25, a1, l1, e3, x1, x2, x3, g1', w1]
      exact seqK_n ⟨k + 1, by omega, by omega, by rw [hs]; kernel_rfl, rfl⟩
  · have e3 : decide ((k : Int) < (ls.length : Int)) = false := by simpa using hlt
    simp only [fr, ↓RP, RS, Int.reduceBEq, Int.reduceBNe, Int.reduceLT, Int.reduceLE, Int.reduceAdd, Int.reduceSub, ↓reduceIte, Nat.reduceAdd, Nat.reduceMul, Nat.reduceSub, Nat.reduceLT, Nat.reduceLeDiff, Nat.reduceEqDiff, decide_true, decide_false, fieldAddrF, undE, tupE, W25, a1, l1, e3]
    rw [List.take_of_length_le (by omega)]
    exact hK.ret (by rfl) ⟨rfl, rfl⟩

def atR (f t : Int) : List D → Int → Option Nat
  | [], _ => none
  | m :: r, i => if isFT f t m then (if i = 0 then some 0 else (atR f t r (i - 1)).map (· + 1)) else (atR f t r i).map (· + 1)
def atI (o : Option Nat) : Int := match o with | some k => k | none => -1

theorem at42 (h : RefAt σ y n ls cuts) (f t i : Int) : callA Try.prog 42 [.ptr y 0 0, .d (.int .i64 f), .d (.int .i64 t), .d (.int .i64 i)] σ fun r σ' => r = .d (.int .i64 (atI (atR f t ls i))) ∧ σ' = σ := by
  refine w42.go fun K hK => ?_
  have a1 := alive_of h.bx (by simp)
  have l1 := load_box (P := Try.prog) (t := 68) (k := 1) h.bx rfl (by simp only [W42]) (by simp only [W42])
  have hfew := h.fewl
  simp only [e42, c42, p42, Try.f42, codeOf, comp, opsOf, stOf, cop, cstp, copAt, planFor, List.find?, List.find?_nil, Option.map_none, Option.getD_none, List.any_cons, List.any_nil, Stp.idx, Bool.or_false, Nat.reduceBEq, ↓RP, RS, Int.reduceBEq, Int.reduceBNe, Int.reduceLT, Int.reduceLE, Int.reduceAdd, Int.reduceSub, ↓reduceIte, Nat.reduceAdd, Nat.reduceMul, Nat.reduceSub, Nat.reduceLT, Nat.reduceLeDiff, Nat.reduceEqDiff, decide_true, decide_false, fieldAddrF, undE, tupE, W42, a1]
  refine Loop_k [0, 1, 2, 3, 9, 10] (fun x : Nat × Nat => fr 0 48 [(0, .ptr y 0 0), (1, .d (.int .i64 f)), (2, .d (.int .i64 t)), (3, .d (.int .i64 i)), (9, .d (.int .i64 x.2)), (10, .d (.int .i64 x.1))]) (fun _ => σ) (fun x => x.1 ≤ ls.length ∧ x.2 ≤ x.1 ∧ atR f t ls i = (atR f t (ls.drop x.1) (i - x.2)).map (· + x.1)) (fun x => ls.length - x.1) (0, 0) (by kernel_rfl) rfl ⟨Nat.zero_le _, Nat.le_refl _, by cases hh : atR f t ls i <;> simp [hh]⟩ fun ⟨k, c⟩ ⟨hk, hc, hi⟩ => ?_
  simp only at hk hc hi ⊢
  by_cases hlt : k < ls.length
  · have e3 : decide ((k : Int) < (ls.length : Int)) = true := by simpa using hlt
    obtain ⟨cs, f', t', he, h34, _, c1, c2⟩ := h.msg _ (List.getElem_mem hlt)
    have hft := msg_ft he c1 c2 f t
    have hd : ls.drop k = ls[k] :: ls.drop (k + 1) := List.drop_eq_getElem_cons hlt
    rw [hd, atR, hft] at hi
    have x1 : ∀ σ, indexAddrF Try.prog 68 σ (.d (.lst 34 ls)) (.d (.int .i64 (k : Int))) = some (.ipt cs) := fun σ => index_lst (P := Try.prog) (t := 68) (e := 42) (by simp only [W42]) (by simp only [W42]) (by rw [List.getElem?_eq_getElem hlt, he]) h34
    have x2 : ∀ σ, loadF Try.prog 3 σ (.ipt (cs.drop 1)) = some (.d (.int .i64 f')) := fun σ => ld_ipt (drop_get c1) (by simp only [W42]) (by simp only [W42])
    have x3 : ∀ σ, loadF Try.prog 3 σ (.ipt (cs.drop 2)) = some (.d (.int .i64 t')) := fun σ => ld_ipt (drop_get c2) (by simp only [W42]) (by simp only [W42])
    have w1 : IntKind.i64.wrap ((k : Int) + 1) = ((k + 1 : Nat) : Int) := by rw [IntWalk.i64_in _ (by omega)]; rfl
    have w2 : IntKind.i64.wrap ((c : Int) + 1) = ((c + 1 : Nat) : Int) := by rw [IntWalk.i64_in _ (by omega)]; rfl
    have mm : ∀ o : Option Nat, (o.map (· + 1)).map (· + k) = o.map (· + (k + 1)) := fun o => by cases o <;> simp; omega
    by_cases g1 : (f' == f) = true
    · by_cases g2 : (t' == t) = true
      · rw [g1, g2] at hi
        by_cases g3 : (c : Int) = i
        · have g3' : ((c : Int) == i) = true := by simpa using g3
          simp only [fr, ↓RP, RS, Int.reduceBEq, Int.reduceBNe, Int.reduceLT, Int.reduceLE, Int.reduceAdd, Int.reduceSub, ↓reduceIte, Nat.reduceAdd, Nat.reduceMul, Nat.reduceSub, Nat.reduceLT, Nat.reduceLeDiff, Nat.reduceEqDiff, decide_true, decide_false, fieldAddrF, undE, tupE, W42, a1, l1, e3, x1, x2, x3, g1, g2, g3', w1, w2]
          have e9 : atR f t ls i = some k := by rw [hi]; simp; omega
          exact hK.ret (by rfl) ⟨by rw [e9]; rfl, rfl⟩
        · have g3' : ((c : Int) == i) = false := by simpa using g3
          have g4 : ¬ (i - (c : Int) = 0) := by omega
          simp only [Bool.and_self, if_true, g4, if_false, mm] at hi
          simp only [fr, ↓RP, RS, Int.reduceBEq, Int.reduceBNe, Int.reduceLT, Int.reduceLE, Int.reduceAdd, Int.reduceSub, ↓reduceIte, Nat.reduceAdd, Nat.reduceMul, Nat.reduceSub, Nat.reduceLT, Nat.reduceLeDiff, Nat.reduceEqDiff, decide_true, decide_false, fieldAddrF, undE, tupE, W42, a1, l1, e3, x1, x2, x3, g1, g2, g3', w1, w2]
          exact seqK_n ⟨(k + 1, c + 1), ⟨by simp only; omega, by simp only; omega, by simp only; rw [hi]; congr 2; omega⟩, by simp only; omega, by kernel_rfl, rfl⟩
      · have g2' : (t' == t) = false := by simpa using g2
        rw [g1, g2'] at hi
        simp only [Bool.and_false, Bool.false_eq_true, if_false, mm] at hi
        simp only [fr, ↓RP, RS, Int.reduceBEq, Int.reduceBNe, Int.reduceLT, Int.reduceLE, Int.reduceAdd, Int.reduceSub, ↓reduceIte, Nat.reduceAdd, Nat.reduceMul, Nat.reduceSub, Nat.reduceLT, Nat.reduceLeDiff, Nat.reduceEqDiff, decide_true, decide_false, fieldAddrF, undE, tupE, W42, a1, l1, e3, x1, x2, x3, g1, g2', w1]
        exact seqK_n ⟨(k + 1, c), ⟨by simp only; omega, by simp only; omega, hi⟩, by simp only; omega, by kernel_rfl, rfl⟩
    · have g1' : (f' == f) = false := by simpa using g1
      rw [g1'] at hi
      simp only [Bool.false_and, Bool.false_eq_true, if_false, mm] at hi
      simp only [fr, ↓RP, RS, Int.reduceBEq, Int.reduceBNe, Int.reduceLT, Int.reduceLE, Int.reduceAdd, Int.reduceSub, ↓reduceIte, Nat.reduceAdd, Nat.reduceMul, Nat.reduceSub, Nat.reduceLT, Nat.reduceLeDiff, Nat.reduceEqDiff, decide_true, decide_false, fieldAddrF, undE, tupE, W42, a1, l1, e3, x1, x2, x3, g1', w1]
      exact seqK_n ⟨(k + 1, c), ⟨by simp only; omega, by simp only; omega, hi⟩, by simp only; omega, by kernel_rfl, rfl⟩
  · have e3 : decide ((k : Int) < (ls.length : Int)) = false := by simpa using hlt
    simp only [fr, ↓RP, RS, Int.reduceBEq, Int.reduceBNe, Int.reduceLT, Int.reduceLE, Int.reduceAdd, Int.reduceSub, ↓reduceIte, Nat.reduceAdd, Nat.reduceMul, Nat.reduceSub, Nat.reduceLT, Nat.reduceLeDiff, Nat.reduceEqDiff, decide_true, decide_false, fieldAddrF, undE, tupE, W42, a1, l1, e3]
    rw [List.drop_of_length_le (by omega), atR] at hi
    exact hK.ret (by rfl) ⟨by rw [hi]; rfl, rfl⟩

theorem idx55 (a b : Int) (σ : List Ob) : indexAddrF Try.prog 55 σ (.d (.lst 1 [.int .i64 a, .int .i64 b])) (.d (.int .i64 0)) = some (.ipt [.int .i64 a]) ∧ indexAddrF Try.prog 55 σ (.d (.lst 1 [.int .i64 a, .int .i64 b])) (.d (.int .i64 1)) = some (.ipt [.int .i64 b]) :=
  ⟨index_lst1 (P := Try.prog) (t := 55) (e := 3) (kd := .i64) (j := 0) (es := [.int .i64 a, .int .i64 b]) (by simp only [W27]) (by simp only [W27]) rfl rfl, index_lst1 (P := Try.prog) (t := 55) (e := 3) (kd := .i64) (j := 1) (es := [.int .i64 a, .int .i64 b]) (by simp only [W27]) (by simp only [W27]) rfl rfl⟩

def offR (cuts : List (Int × Int)) (f t : Int) : Bool := cuts.any fun c => c.1 == f && c.2 == t

theorem off27 (h : RefAt σ y n ls cuts) (f t : Int) : callA Try.prog 27 [.ptr y 0 0, .d (.int .i64 f), .d (.int .i64 t)] σ fun r σ' => r = .d (.bool (offR cuts f t)) ∧ σ' = σ := by
  refine w27.go fun K hK => ?_
  have a1 := alive_of h.bx (by simp)
  have l1 := load_box (P := Try.prog) (t := 69) (k := 2) h.bx rfl (by simp only [W27]) (by simp only [W27])
  have hfew := h.fewc
  have hlm : (cuts.map cutE).length = cuts.length := by simp
  simp only [e27, c27, p27, Try.f27, codeOf, comp, opsOf, stOf, cop, cstp, copAt, planFor, List.find?, List.find?_nil, Option.map_none, Option.getD_none, List.any_cons, List.any_nil, Stp.idx, Bool.or_false, Nat.reduceBEq, ↓RP, RS, Int.reduceBEq, Int.reduceBNe, Int.reduceLT, Int.reduceLE, Int.reduceAdd, Int.reduceSub, ↓reduceIte, Nat.reduceAdd, Nat.reduceMul, Nat.reduceSub, Nat.reduceLT, Nat.reduceLeDiff, Nat.reduceEqDiff, decide_true, decide_false, fieldAddrF, undE, tupE, W27, a1]
  refine Loop_k [0, 1, 2, 7] (fun k : Nat => fr 0 41 [(0, .ptr y 0 0), (1, .d (.int .i64 f)), (2, .d (.int .i64 t)), (7, .d (.int .i64 k))]) (fun _ => σ) (fun k => k ≤ cuts.length ∧ offR cuts f t = offR (cuts.drop k) f t) (fun k => cuts.length - k) 0 (by kernel_rfl) rfl ⟨Nat.zero_le _, rfl⟩ fun k ⟨hk, hi⟩ => ?_
  by_cases hlt : k < cuts.length
  · have e3 : decide ((k : Int) < (cuts.length : Int)) = true := by simpa using hlt
    have hd : cuts.drop k = cuts[k] :: cuts.drop (k + 1) := List.drop_eq_getElem_cons hlt
    rw [hd] at hi
    simp only [offR, List.any_cons] at hi
    generalize hc : cuts[k] = c at hi
    obtain ⟨a, b⟩ := c
    simp only at hi
    have x1 : ∀ σ, indexAddrF Try.prog 69 σ (.d (.lst 1 (cuts.map cutE))) (.d (.int .i64 (k : Int))) = some (.ipt [cutE (a, b)]) := fun σ => index_lst1 (P := Try.prog) (t := 69) (e := 55) (by simp only [W27]) (by simp only [W27]) (by rw [List.getElem?_map, List.getElem?_eq_getElem hlt, hc]; rfl) rfl
    have x2 : ∀ σ, loadF Try.prog 55 σ (.ipt [cutE (a, b)]) = some (.d (.lst 1 [.int .i64 a, .int .i64 b])) := fun σ => ld_ipt rfl (by simp only [W27]) (by simp only [W27])
    have x3 := fun σ => (idx55 a b σ).1
    have x4 := fun σ => (idx55 a b σ).2
    have x5 : ∀ σ a, loadF Try.prog 3 σ (.ipt [.int .i64 a]) = some (.d (.int .i64 a)) := fun σ a => ld_ipt rfl (by simp only [W27]) (by simp only [W27])
    have w1 : IntKind.i64.wrap ((k : Int) + 1) = ((k + 1 : Nat) : Int) := by rw [IntWalk.i64_in _ (by omega)]; rfl
    by_cases g1 : (a == f) = true
    · by_cases g2 : (b == t) = true
      · rw [g1, g2] at hi
        simp only [fr, ↓RP, RS, Int.reduceBEq, Int.reduceBNe, Int.reduceLT, Int.reduceLE, Int.reduceAdd, Int.reduceSub, ↓reduceIte, Nat.reduceAdd, Nat.reduceMul, Nat.reduceSub, Nat.reduceLT, Nat.reduceLeDiff, Nat.reduceEqDiff, decide_true, decide_false, fieldAddrF, undE, tupE, W27, a1, l1, hlm, e3, x1, x2, x3, x4, x5, g1, g2, w1]
        exact hK.ret (by rfl) ⟨by unfold offR; rw [hi]; rfl, rfl⟩
      · have g2' : (b == t) = false := by simpa using g2
        rw [g1, g2'] at hi
        simp only [fr, ↓RP, RS, Int.reduceBEq, Int.reduceBNe, Int.reduceLT, Int.reduceLE, Int.reduceAdd, Int.reduceSub, ↓reduceIte, Nat.reduceAdd, Nat.reduceMul, Nat.reduceSub, Nat.reduceLT, Nat.reduceLeDiff, Nat.reduceEqDiff, decide_true, decide_false, fieldAddrF, undE, tupE, W27, a1, l1, hlm, e3, x1, x2, x3, x4, x5, g1, g2', w1]
        exact seqK_n ⟨k + 1, ⟨by omega, by simpa [offR] using hi⟩, by omega, by kernel_rfl, rfl⟩
    · have g1' : (a == f) = false := by simpa using g1
      rw [g1'] at hi
      simp only [fr, ↓RP, RS, Int.reduceBEq, Int.reduceBNe, Int.reduceLT, Int.reduceLE, Int.reduceAdd, Int.reduceSub, ↓reduceIte, Nat.reduceAdd, Nat.reduceMul, Nat.reduceSub, Nat.reduceLT, Nat.reduceLeDiff, Nat.reduceEqDiff, decide_true, decide_false, fieldAddrF, undE, tupE, W27, a1, l1, hlm, e3, x1, x2, x3, x4, x5, g1', w1]
      exact seqK_n ⟨k + 1, ⟨by omega, by simpa [offR] using hi⟩, by omega, by kernel_rfl, rfl⟩
  · have e3 : decide ((k : Int) < (cuts.length : Int)) = false := by simpa using hlt
    simp only [fr, ↓RP, RS, Int.reduceBEq, Int.reduceBNe, Int.reduceLT, Int.reduceLE, Int.reduceAdd, Int.reduceSub, ↓reduceIte, Nat.reduceAdd, Nat.reduceMul, Nat.reduceSub, Nat.reduceLT, Nat.reduceLeDiff, Nat.reduceEqDiff, decide_true, decide_false, fieldAddrF, undE, tupE, W27, a1, l1, hlm, e3]
    rw [List.drop_of_length_le (by omega)] at hi
    exact hK.ret (by rfl) ⟨by rw [hi]; rfl, rfl⟩
end
end Go.Proofs.Ytadddaafajennaa.Am
