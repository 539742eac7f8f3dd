/- Walks: what a queue tells; where a link lies. -/
import Derived.Test.YtadddaafajennaaNc
set_option linter.unusedSimpArgs false
set_option linter.unusedVariables false
set_option maxRecDepth 10000
namespace Go.Proofs.Ytadddaafajennaa.Am
open Go Go.Proofs

def cellQ (q : Option Nat) (len : Nat) : V := match q with | none => .d .nils | some q => .sl q 0 len
def ArrQ (σ : List Ob) (q : Option Nat) (ms : List D) : Prop := match q with | none => ms = [] | some q => ∃ junk, σ[q]? = some (.arr 34 false (ms ++ junk))

inductive Role where
  | other | net | links | row (i : Nat) | queue (i j : Nat)
  deriving DecidableEq

abbrev Links := Nat → Nat → Bool × List D
def upd2 (A : Links) (i j : Nat) (a : Bool × List D) : Links := fun i' j' => if i' = i ∧ j' = j then a else A i' j'
def MsgD (d : D) : Prop := ∃ ms f t ents lk, d = .agg ms ∧ MsgOk ms f t ents lk

structure NetAt (σ : List Ob) (x n : Nat) (A : Links) (L : Nat) (R : Nat → Nat) (Q : Nat → Nat → Option Nat) (role : Nat → Role) : Prop where
  n20 : n ≤ 20
  hx : σ[x]? = some (.box [.sl L 0 n])
  hL : ∃ cs, σ[L]? = some (.box cs) ∧ ∀ i, i < n → cs[i]? = some (.sl (R i) 0 n)
  hR : ∀ i, i < n → ∃ cs, σ[R i]? = some (.box cs) ∧ ∀ j, j < n → cs[j * 2]? = some (cellQ (Q i j) (A i j).2.length) ∧ cs[j * 2 + 1]? = some (.d (.bool (A i j).1))
  hQ : ∀ i j, i < n → j < n → ArrQ σ (Q i j) (A i j).2
  rlt : ∀ o, role o ≠ .other → o < σ.length
  rx : role x = .net
  rL : role L = .links
  rR : ∀ i, i < n → role (R i) = .row i
  rQ : ∀ i j, i < n → j < n → ∀ q, Q i j = some q → role q = .queue i j
  few : ∀ i j, i < n → j < n → (A i j).2.length ≤ 1024
  msg : ∀ i j, i < n → j < n → ∀ m ∈ (A i j).2, MsgD m

section
variable {σ : List Ob} {o k : Nat} {cs : List V} {q : Option Nat} {ms : List D}

theorem size45 (h1 : σ[o]? = some (.box cs)) (h2 : cs[k]? = some (cellQ q ms.length)) (h3 : ArrQ σ q ms) :
    callA Try.prog 45 [.ptr o 0 k] σ (fun r σ' => r = .d (.int .i64 ms.length) ∧ σ' = σ) := by
  refine w45.go fun K hK => ?_
  have a1 := alive_of h1 (by simp)
  have l1 := load_box (P := Try.prog) (t := 68) h1 h2 (by simp only [W45]) (by simp only [W45])
  cases q with
  | none =>
    cases h3
    simp only [e45, c45, p45, Try.f45, codeOf, comp, opsOf, stOf, cop, cstp, copAt, planFor, List.find?, List.find?_nil, Option.map_none, Option.getD_none, List.any_cons, List.any_nil, Stp.idx, Bool.or_false, Nat.reduceBEq, ↓RP, RS, Int.reduceBEq, Int.reduceBNe, Int.reduceLT, Int.reduceLE, Int.reduceAdd, Int.reduceSub, ↓reduceIte, Nat.reduceAdd, Nat.reduceMul, Nat.reduceSub, Nat.reduceLT, Nat.reduceLeDiff, Nat.reduceEqDiff, decide_true, decide_false, fieldAddrF, undE, tupE, W45, a1, fieldAddrF, l1, cellQ]

    exact hK.ret (by rfl) ⟨by rfl, by rfl⟩
  | some q =>
    obtain ⟨junk, h3⟩ := h3
    have a2 := alive_of h3 (by simp)
    simp only [e45, c45, p45, Try.f45, codeOf, comp, opsOf, stOf, cop, cstp, copAt, planFor, List.find?, List.find?_nil, Option.map_none, Option.getD_none, List.any_cons, List.any_nil, Stp.idx, Bool.or_false, Nat.reduceBEq, ↓RP, RS, Int.reduceBEq, Int.reduceBNe, Int.reduceLT, Int.reduceLE, Int.reduceAdd, Int.reduceSub, ↓reduceIte, Nat.reduceAdd, Nat.reduceMul, Nat.reduceSub, Nat.reduceLT, Nat.reduceLeDiff, Nat.reduceEqDiff, decide_true, decide_false, fieldAddrF, undE, tupE, W45, a1, a2, fieldAddrF, l1, cellQ]
    exact hK.ret (by rfl) ⟨by rfl, by rfl⟩

theorem full36 (h1 : σ[o]? = some (.box cs)) (h2 : cs[k]? = some (cellQ q ms.length)) (h3 : ArrQ σ q ms) :
    callA Try.prog 36 [.ptr o 0 k] σ (fun r σ' => r = .d (.bool (decide (1024 ≤ ms.length))) ∧ σ' = σ) := by
  refine w36.go fun K hK => ?_
  have a1 := alive_of h1 (by simp)
  have l1 := load_box (P := Try.prog) (t := 68) h1 h2 (by simp only [W36]) (by simp only [W36])
  have e : decide ((1024 : Int) ≤ (ms.length : Int)) = decide (1024 ≤ ms.length) := by simp; omega
  cases q with
  | none =>
    cases h3
    simp only [e36, c36, p36, Try.f36, codeOf, comp, opsOf, stOf, cop, cstp, copAt, planFor, List.find?, List.find?_nil, Option.map_none, Option.getD_none, List.any_cons, List.any_nil, Stp.idx, Bool.or_false, Nat.reduceBEq, ↓RP, RS, Int.reduceBEq, Int.reduceBNe, Int.reduceLT, Int.reduceLE, Int.reduceAdd, Int.reduceSub, ↓reduceIte, Nat.reduceAdd, Nat.reduceMul, Nat.reduceSub, Nat.reduceLT, Nat.reduceLeDiff, Nat.reduceEqDiff, decide_true, decide_false, fieldAddrF, undE, tupE, W36, a1, fieldAddrF, l1, cellQ]
    exact hK.ret (by rfl) ⟨by rfl, by rfl⟩
  | some q =>
    obtain ⟨junk, h3⟩ := h3
    have a2 := alive_of h3 (by simp)
    simp only [e36, c36, p36, Try.f36, codeOf, comp, opsOf, stOf, cop, cstp, copAt, planFor, List.find?, List.find?_nil, Option.map_none, Option.getD_none, List.any_cons, List.any_nil, Stp.idx, Bool.or_false, Nat.reduceBEq, ↓RP, RS, Int.reduceBEq, Int.reduceBNe, Int.reduceLT, Int.reduceLE, Int.reduceAdd, Int.reduceSub, ↓reduceIte, Nat.reduceAdd, Nat.reduceMul, Nat.reduceSub, Nat.reduceLT, Nat.reduceLeDiff, Nat.reduceEqDiff, decide_true, decide_false, fieldAddrF, undE, tupE, W36, a1, a2, fieldAddrF, l1, cellQ, e]
    exact hK.ret (by rfl) ⟨by rfl, by rfl⟩

theorem has40 (i : Int) (h1 : σ[o]? = some (.box cs)) (h2 : cs[k]? = some (cellQ q ms.length)) (h3 : ArrQ σ q ms) :
    callA Try.prog 40 [.ptr o 0 k, .d (.int .i64 i)] σ (fun r σ' => r = .d (.bool (decide (0 ≤ i ∧ i < ms.length))) ∧ σ' = σ) := by
  refine w40.go fun K hK => ?_
  have a1 := alive_of h1 (by simp)
  have l1 := load_box (P := Try.prog) (t := 68) h1 h2 (by simp only [W40]) (by simp only [W40])
  by_cases hi : 0 ≤ i
  · have d1 : decide ((0 : Int) ≤ i) = true := by simpa using hi
    cases q with
    | none =>
      cases h3
      simp only [e40, c40, p40, Try.f40, codeOf, comp, opsOf, stOf, cop, cstp, copAt, planFor, List.find?, List.find?_nil, Option.map_none, Option.getD_none, List.any_cons, List.any_nil, Stp.idx, Bool.or_false, Nat.reduceBEq, ↓RP, RS, Int.reduceBEq, Int.reduceBNe, Int.reduceLT, Int.reduceLE, Int.reduceAdd, Int.reduceSub, ↓reduceIte, Nat.reduceAdd, Nat.reduceMul, Nat.reduceSub, Nat.reduceLT, Nat.reduceLeDiff, Nat.reduceEqDiff, decide_true, decide_false, fieldAddrF, undE, tupE, W40, a1, fieldAddrF, l1, cellQ, d1]
      exact hK.ret (by rfl) ⟨by simp [hi], by rfl⟩
    | some q =>
      obtain ⟨junk, h3⟩ := h3
      have a2 := alive_of h3 (by simp)
      simp only [e40, c40, p40, Try.f40, codeOf, comp, opsOf, stOf, cop, cstp, copAt, planFor, List.find?, List.find?_nil, Option.map_none, Option.getD_none, List.any_cons, List.any_nil, Stp.idx, Bool.or_false, Nat.reduceBEq, ↓RP, RS, Int.reduceBEq, Int.reduceBNe, Int.reduceLT, Int.reduceLE, Int.reduceAdd, Int.reduceSub, ↓reduceIte, Nat.reduceAdd, Nat.reduceMul, Nat.reduceSub, Nat.reduceLT, Nat.reduceLeDiff, Nat.reduceEqDiff, decide_true, decide_false, fieldAddrF, undE, tupE, W40, a1, a2, fieldAddrF, l1, cellQ, d1]
      exact hK.ret (by rfl) ⟨by simp [hi], by rfl⟩
  · have d1 : decide ((0 : Int) ≤ i) = false := by simpa using hi
    simp only [e40, c40, p40, Try.f40, codeOf, comp, opsOf, stOf, cop, cstp, copAt, planFor, List.find?, List.find?_nil, Option.map_none, Option.getD_none, List.any_cons, List.any_nil, Stp.idx, Bool.or_false, Nat.reduceBEq, ↓RP, RS, Int.reduceBEq, Int.reduceBNe, Int.reduceLT, Int.reduceLE, Int.reduceAdd, Int.reduceSub, ↓reduceIte, Nat.reduceAdd, Nat.reduceMul, Nat.reduceSub, Nat.reduceLT, Nat.reduceLeDiff, Nat.reduceEqDiff, decide_true, decide_false, fieldAddrF, undE, tupE, W40, a1, fieldAddrF, l1, cellQ, d1]
    exact hK.ret (by rfl) ⟨by simp [hi], by rfl⟩
end

section
variable {σ : List Ob} {x n : Nat} {A : Links} {L : Nat} {R : Nat → Nat} {Q : Nat → Nat → Option Nat} {role : Nat → Role}

theorem index_box {P : Program} {t : TypeId} {σ : List Ob} {o : Nat} {cs : List V} {e : TypeId} {kd : IntKind} {len j : Nat} (h1 : σ[o]? = some (.box cs)) (he : elemOfSlice P t = some e) (h0 : 0 < szOf P e) (hj : j < len) : indexAddrF P t σ (.sl o 0 len) (.d (.int kd (j : Int))) = some (.ptr o 0 (j * szOf P e)) := by
  simp only [indexAddrF, he, h1, h0, true_and, if_true]
  rw [if_pos ⟨by omega, by omega⟩]
  simp

theorem link35 (h : NetAt σ x n A L R Q role) {i j : Nat} (hi : i < n) (hj : j < n) (hij : i ≠ j) :
    callA Try.prog 35 [.ptr x 0 0, .d (.int .i64 i), .d (.int .i64 j)] σ (fun r σ' => r = .ptr (R i) 0 (j * 2) ∧ σ' = σ) := by
  refine w35.go fun K hK => ?_
  obtain ⟨cL, hL, hcL⟩ := h.hL
  obtain ⟨cR, hR, hcR⟩ := h.hR i hi
  have a1 := alive_of h.hx (by simp)
  have a2 := alive_of hL (by simp)
  have l1 := load_box (P := Try.prog) (t := 64) (k := 0) h.hx rfl (by simp only [W35]) (by simp only [W35])
  have x1 := index_box (P := Try.prog) (t := 64) (e := 67) (kd := .i64) hL (by simp only [W35]) (by simp [W35]) hi
  have l2 := load_box (P := Try.prog) (t := 67) hL (hcL i hi) (by simp only [W35]) (by simp only [W35])
  have x2 := index_box (P := Try.prog) (t := 67) (e := 77) (kd := .i64) hR (by simp only [W35]) (by simp [W35]) hj
  have z1 : szOf Try.prog 67 = 1 := by simp only [W35]
  have z2 : szOf Try.prog 77 = 2 := by simp only [W35]
  rw [z1, Nat.mul_one] at x1
  rw [z2] at x2
  have d1 : decide ((i : Int) < 0) = false := by simp
  have d2 : decide ((n : Int) ≤ (i : Int)) = false := by simp; omega
  have d3 : decide ((j : Int) < 0) = false := by simp
  have d4 : decide ((n : Int) ≤ (j : Int)) = false := by simp; omega
  have d5 : ((i : Int) == (j : Int)) = false := by simp; omega
  simp only [e35, c35, p35, Try.f35, codeOf, comp, opsOf, stOf, cop, cstp, copAt, planFor, List.find?, List.find?_nil, Option.map_none, Option.getD_none, List.any_cons, List.any_nil, Stp.idx, Bool.or_false, Nat.reduceBEq, ↓RP, RS, Int.reduceBEq, Int.reduceBNe, Int.reduceLT, Int.reduceLE, Int.reduceAdd, Int.reduceSub, ↓reduceIte, Nat.reduceAdd, Nat.reduceMul, Nat.reduceSub, Nat.reduceLT, Nat.reduceLeDiff, Nat.reduceEqDiff, decide_true, decide_false, fieldAddrF, undE, tupE, W35, a1, a2, fieldAddrF, l1, x1, l2, x2, d1, d2, d3, d4, d5]
  exact hK.ret (by rfl) ⟨by rfl, by rfl⟩

def isL (n : Nat) (f t : Int) : Prop := 0 ≤ f ∧ f < n ∧ 0 ≤ t ∧ t < n ∧ f ≠ t

theorem link35_no (h : NetAt σ x n A L R Q role) {f t : Int} (hno : ¬ isL n f t) :
    callA Try.prog 35 [.ptr x 0 0, .d (.int .i64 f), .d (.int .i64 t)] σ (fun r σ' => r = .d .nilp ∧ σ' = σ) := by
  refine w35.go fun K hK => ?_
  obtain ⟨cL, hL, hcL⟩ := h.hL
  have a1 := alive_of h.hx (by simp)
  have a2 := alive_of hL (by simp)
  have l1 := load_box (P := Try.prog) (t := 64) (k := 0) h.hx rfl (by simp only [W35]) (by simp only [W35])
  have fin : ∀ s, resF Try.prog s σ e35.rs = some (.d .nilp) → K .ret s σ := fun s hs => hK.ret hs ⟨by rfl, by rfl⟩
  by_cases d1 : f < 0
  · have d1 : decide (f < 0) = true := by simpa using d1
    simp only [e35, c35, p35, Try.f35, codeOf, comp, opsOf, stOf, cop, cstp, copAt, planFor, List.find?, List.find?_nil, Option.map_none, Option.getD_none, List.any_cons, List.any_nil, Stp.idx, Bool.or_false, Nat.reduceBEq, ↓RP, RS, Int.reduceBEq, Int.reduceBNe, Int.reduceLT, Int.reduceLE, Int.reduceAdd, Int.reduceSub, ↓reduceIte, Nat.reduceAdd, Nat.reduceMul, Nat.reduceSub, Nat.reduceLT, Nat.reduceLeDiff, Nat.reduceEqDiff, decide_true, decide_false, fieldAddrF, undE, tupE, W35, a1, a2, fieldAddrF, l1, d1]
    exact fin _ rfl
  have d1' : decide (f < 0) = false := by simpa using d1
  by_cases d2 : (n : Int) ≤ f
  · have d2 : decide ((n : Int) ≤ f) = true := by simpa using d2
    simp only [e35, c35, p35, Try.f35, codeOf, comp, opsOf, stOf, cop, cstp, copAt, planFor, List.find?, List.find?_nil, Option.map_none, Option.getD_none, List.any_cons, List.any_nil, Stp.idx, Bool.or_false, Nat.reduceBEq, ↓RP, RS, Int.reduceBEq, Int.reduceBNe, Int.reduceLT, Int.reduceLE, Int.reduceAdd, Int.reduceSub, ↓reduceIte, Nat.reduceAdd, Nat.reduceMul, Nat.reduceSub, Nat.reduceLT, Nat.reduceLeDiff, Nat.reduceEqDiff, decide_true, decide_false, fieldAddrF, undE, tupE, W35, a1, a2, fieldAddrF, l1, d1', d2]
    exact fin _ rfl
  have d2' : decide ((n : Int) ≤ f) = false := by simpa using d2
  by_cases d3 : t < 0
  · have d3 : decide (t < 0) = true := by simpa using d3
    simp only [e35, c35, p35, Try.f35, codeOf, comp, opsOf, stOf, cop, cstp, copAt, planFor, List.find?, List.find?_nil, Option.map_none, Option.getD_none, List.any_cons, List.any_nil, Stp.idx, Bool.or_false, Nat.reduceBEq, ↓RP, RS, Int.reduceBEq, Int.reduceBNe, Int.reduceLT, Int.reduceLE, Int.reduceAdd, Int.reduceSub, ↓reduceIte, Nat.reduceAdd, Nat.reduceMul, Nat.reduceSub, Nat.reduceLT, Nat.reduceLeDiff, Nat.reduceEqDiff, decide_true, decide_false, fieldAddrF, undE, tupE, W35, a1, a2, fieldAddrF, l1, d1', d2', d3]
    exact fin _ rfl
  have d3' : decide (t < 0) = false := by simpa using d3
  by_cases d4 : (n : Int) ≤ t
  · have d4 : decide ((n : Int) ≤ t) = true := by simpa using d4
    simp only [e35, c35, p35, Try.f35, codeOf, comp, opsOf, stOf, cop, cstp, copAt, planFor, List.find?, List.find?_nil, Option.map_none, Option.getD_none, List.any_cons, List.any_nil, Stp.idx, Bool.or_false, Nat.reduceBEq, ↓RP, RS, Int.reduceBEq, Int.reduceBNe, Int.reduceLT, Int.reduceLE, Int.reduceAdd, Int.reduceSub, ↓reduceIte, Nat.reduceAdd, Nat.reduceMul, Nat.reduceSub, Nat.reduceLT, Nat.reduceLeDiff, Nat.reduceEqDiff, decide_true, decide_false, fieldAddrF, undE, tupE, W35, a1, a2, fieldAddrF, l1, d1', d2', d3', d4]
    exact fin _ rfl
  have d4' : decide ((n : Int) ≤ t) = false := by simpa using d4
  have d5 : f = t := by unfold isL at hno; omega
  have d5 : (f == t) = true := by simpa using d5
  simp only [e35, c35, p35, Try.f35, codeOf, comp, opsOf, stOf, cop, cstp, copAt, planFor, List.find?, List.find?_nil, Option.map_none, Option.getD_none, List.any_cons, List.any_nil, Stp.idx, Bool.or_false, Nat.reduceBEq, ↓RP, RS, Int.reduceBEq, Int.reduceBNe, Int.reduceLT, Int.reduceLE, Int.reduceAdd, Int.reduceSub, ↓reduceIte, Nat.reduceAdd, Nat.reduceMul, Nat.reduceSub, Nat.reduceLT, Nat.reduceLeDiff, Nat.reduceEqDiff, decide_true, decide_false, fieldAddrF, undE, tupE, W35, a1, a2, fieldAddrF, l1, d1', d2', d3', d4', d5]
  exact fin _ rfl
end
end Go.Proofs.Ytadddaafajennaa.Am
