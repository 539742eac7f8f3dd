/- Lists of steps: few, words, set; the law IndexForgets. -/
import Derived.Test.YtjidelngljpbdaaIk
set_option linter.unusedSimpArgs false
set_option linter.unusedVariables false
set_option maxRecDepth 10000
set_option maxHeartbeats 2000000
namespace Go.Proofs.Ytjidelngljpbdaa.Am
open Go Go.Proofs

/-- A step: what to do, its id, its text, its words. -/
abbrev StepI := Int × W × W × List W
def stCs (e : StepI) : List D := [.int .i64 e.1, .str e.2.1, .str e.2.2.1, .lst 1 (e.2.2.2.map .str)]
def stD (e : StepI) : D := .agg (stCs e)
abbrev stepsV (ss : List StepI) : V := .d (.lst 4 (ss.map stD))
def andI (d : Int) : Int := IntKind.i64.wrap (BitVec.ofInt IntKind.i64.bits d &&& BitVec.ofInt IntKind.i64.bits 3).toNat
theorem bin_andI (P : Program) (t : TypeId) (σ : List Ob) (d : Int) : binF P .and t σ (.d (.int .i64 d)) (.d (.int .i64 3)) = some (.d (.int .i64 (andI d))) := by simp [binF, intBin, andI]

theorem words21 {σ : List Ob} {v : V} {ws : List W} (h : LstAt σ v ws) : callA Try.prog 21 [v] σ fun r σ' => σ' = σ ∧ ∃ b, r = .d (.bool b) ∧ (b = true → ws.length ≤ 8) := by
  refine w21.go fun K hK => ?_
  have l1 := h.len
  by_cases h8 : ws.length ≤ 8
  · have e0 : decide (8 < (ws.length : Int)) = false := decide_eq_false (by omega)
    simp only [e21, c21, p21, Try.f21, codeOf, comp, opsOf, stOf, cop, cstp, copAt, planFor, List.find?, List.find?_nil, Option.map_none, Option.getD_none, List.any_cons, List.any_nil, Stp.idx, Bool.or_false, Nat.reduceBEq, ↓RP, RS, Int.reduceBEq, Int.reduceBNe, Int.reduceLT, Int.reduceLE, Int.reduceAdd, Int.reduceSub, ↓reduceIte, Nat.reduceAdd, Nat.reduceMul, Nat.reduceSub, Nat.reduceLT, Nat.reduceLeDiff, Nat.reduceEqDiff, decide_true, decide_false, fieldAddrF, undE, tupE, W21, l1, e0]
    refine Loop_k [0, 3] (fun k : Nat => fr 0 19 [(0, v), (3, .d (.int .i64 k))]) (fun _ => σ) (fun k => k ≤ ws.length) (fun k => ws.length - k) 0 (by kernel_rfl) rfl (Nat.zero_le _) fun k hk => ?_
    by_cases hlt : k < ws.length
    · have e3 : decide ((k : Int) < (ws.length : Int)) = true := decide_eq_true (by omega)
      have w1 : IntKind.i64.wrap ((k : Int) + 1) = ((k + 1 : Nat) : Int) := by rw [IntWalk.i64_in _ (by omega)]; rfl
      obtain ⟨w, gw⟩ : ∃ w, ws[k]? = some w := ⟨_, List.getElem?_eq_getElem hlt⟩
      obtain ⟨ad, y1, y2⟩ := h.get gw
      by_cases hw : w.length ≤ 100
      · have e4 : decide (100 < (w.length : Int)) = false := decide_eq_false (by omega)
        simp only [fr, ↓RP, RS, Int.reduceBEq, Int.reduceBNe, Int.reduceLT, Int.reduceLE, Int.reduceAdd, Int.reduceSub, ↓reduceIte, Nat.reduceAdd, Nat.reduceMul, Nat.reduceSub, Nat.reduceLT, Nat.reduceLeDiff, Nat.reduceEqDiff, decide_true, decide_false, fieldAddrF, undE, tupE, W21, l1, e3, y1, y2, e4, w1]
        exact seqK_n ⟨k + 1, hlt, by omega, by kernel_rfl, rfl⟩
      · have e4 : decide (100 < (w.length : Int)) = true := decide_eq_true (by omega)
        simp only [fr, ↓RP, RS, Int.reduceBEq, Int.reduceBNe, Int.reduceLT, Int.reduceLE, Int.reduceAdd, Int.reduceSub, ↓reduceIte, Nat.reduceAdd, Nat.reduceMul, Nat.reduceSub, Nat.reduceLT, Nat.reduceLeDiff, Nat.reduceEqDiff, decide_true, decide_false, fieldAddrF, undE, tupE, W21, l1, e3, y1, y2, e4]
        exact hK.ret (by rfl) ⟨rfl, false, rfl, fun e => by cases e⟩
    · have e3 : decide ((k : Int) < (ws.length : Int)) = false := decide_eq_false (by omega)
      simp only [fr, ↓RP, RS, Int.reduceBEq, Int.reduceBNe, Int.reduceLT, Int.reduceLE, Int.reduceAdd, Int.reduceSub, ↓reduceIte, Nat.reduceAdd, Nat.reduceMul, Nat.reduceSub, Nat.reduceLT, Nat.reduceLeDiff, Nat.reduceEqDiff, decide_true, decide_false, fieldAddrF, undE, tupE, W21, l1, e3]
      exact hK.ret (by rfl) ⟨rfl, true, rfl, fun _ => h8⟩
  · have e0 : decide (8 < (ws.length : Int)) = true := decide_eq_true (by omega)
    simp only [e21, c21, p21, Try.f21, codeOf, comp, opsOf, stOf, cop, cstp, copAt, planFor, List.find?, List.find?_nil, Option.map_none, Option.getD_none, List.any_cons, List.any_nil, Stp.idx, Bool.or_false, Nat.reduceBEq, ↓RP, RS, Int.reduceBEq, Int.reduceBNe, Int.reduceLT, Int.reduceLE, Int.reduceAdd, Int.reduceSub, ↓reduceIte, Nat.reduceAdd, Nat.reduceMul, Nat.reduceSub, Nat.reduceLT, Nat.reduceLeDiff, Nat.reduceEqDiff, decide_true, decide_false, fieldAddrF, undE, tupE, W21, l1, e0]
    exact hK.ret (by rfl) ⟨rfl, false, rfl, fun e => by cases e⟩

def Few (ss : List StepI) : Prop := ss.length ≤ 40 ∧ ∀ e ∈ ss, e.2.2.1.length ≤ 500 ∧ e.2.2.2.length ≤ 8

section
variable {ss : List StepI} {k : Nat} {d : Int} {id tx : W} {ws : List W}
theorem step_at (h : ss[k]? = some (d, id, tx, ws)) (σ : List Ob) : indexAddrF Try.prog 29 σ (stepsV ss) (.d (.int .i64 (k : Int))) = some (.ipt [.int .i64 d, .str id, .str tx, .lst 1 (ws.map .str)]) :=
  index_lst (P := Try.prog) (t := 29) (e := 35) (by simp only [T29]) (by simp only [T35]) (by rw [List.getElem?_map, h]; rfl) rfl
theorem ld3 (σ : List Ob) (r : List D) : loadF Try.prog 3 σ (.ipt (.int .i64 d :: r)) = some (.d (.int .i64 d)) := ld_ipt rfl (by simp only [T3]) (by simp only [T3])
theorem ld9 (σ : List Ob) (w : W) (r : List D) : loadF Try.prog 9 σ (.ipt (.str w :: r)) = some (.d (.str w)) := ld_ipt rfl (by simp only [T9]) (by simp only [T9])
theorem ld23 (σ : List Ob) (l r : List D) : loadF Try.prog 23 σ (.ipt (.lst 1 l :: r)) = some (.d (.lst 1 l)) := ld_ipt rfl (by simp only [T23]) (by simp only [T23])
end

theorem few13 (ss : List StepI) (τ : List Ob) : callA Try.prog 13 [stepsV ss] τ fun r σ' => σ' = τ ∧ ∃ b, r = .d (.bool b) ∧ (b = true → Few ss) := by
  refine w13.go fun K hK => ?_
  by_cases h8 : ss.length ≤ 40
  · have e0 : decide (40 < (ss.length : Int)) = false := decide_eq_false (by omega)
    simp only [e13, c13, p13, Try.f13, codeOf, comp, opsOf, stOf, cop, cstp, copAt, planFor, List.find?, List.find?_nil, Option.map_none, Option.getD_none, List.any_cons, List.any_nil, Stp.idx, Bool.or_false, Nat.reduceBEq, ↓RP, RS, Int.reduceBEq, Int.reduceBNe, Int.reduceLT, Int.reduceLE, Int.reduceAdd, Int.reduceSub, ↓reduceIte, Nat.reduceAdd, Nat.reduceMul, Nat.reduceSub, Nat.reduceLT, Nat.reduceLeDiff, Nat.reduceEqDiff, decide_true, decide_false, fieldAddrF, undE, tupE, W13, List.length_map, e0]
    refine Loop_k [0, 3] (fun k : Nat => fr 0 40 [(0, stepsV ss), (3, .d (.int .i64 k))]) (fun _ => τ) (fun k => k ≤ ss.length ∧ ∀ e ∈ ss.take k, e.2.2.1.length ≤ 500 ∧ e.2.2.2.length ≤ 8) (fun k => ss.length - k) 0 (by kernel_rfl) rfl ⟨Nat.zero_le _, by simp⟩ fun k ⟨hk, hpre⟩ => ?_
    by_cases hlt : k < ss.length
    · have e3 : decide ((k : Int) < (ss.length : Int)) = true := decide_eq_true (by omega)
      have w1 : IntKind.i64.wrap ((k : Int) + 1) = ((k + 1 : Nat) : Int) := by rw [IntWalk.i64_in _ (by omega)]; rfl
      obtain ⟨⟨d, id, tx, ws⟩, gw⟩ : ∃ w, ss[k]? = some w := ⟨_, List.getElem?_eq_getElem hlt⟩
      have x1 := step_at gw
      simp only [fr, ↓RP, RS, Int.reduceBEq, Int.reduceBNe, Int.reduceLT, Int.reduceLE, Int.reduceAdd, Int.reduceSub, ↓reduceIte, Nat.reduceAdd, Nat.reduceMul, Nat.reduceSub, Nat.reduceLT, Nat.reduceLeDiff, Nat.reduceEqDiff, decide_true, decide_false, fieldAddrF, undE, tupE, W13, List.length_map, e3, x1, ld23]
      refine CallK_use' (words21 (.val ws)) fun v0 s1 ⟨q2, b, q1, hb⟩ => ?_
      subst q1; rw [q2]
      by_cases h1 : id.length ≤ 100
      · have e4 : decide (100 < (id.length : Int)) = false := decide_eq_false (by omega)
        by_cases h2 : tx.length ≤ 500
        · have e5 : decide (500 < (tx.length : Int)) = false := decide_eq_false (by omega)
          cases b with
          | true =>
            simp only [fr, ↓RP, RS, Int.reduceBEq, Int.reduceBNe, Int.reduceLT, Int.reduceLE, Int.reduceAdd, Int.reduceSub, ↓reduceIte, Nat.reduceAdd, Nat.reduceMul, Nat.reduceSub, Nat.reduceLT, Nat.reduceLeDiff, Nat.reduceEqDiff, decide_true, decide_false, fieldAddrF, undE, tupE, W13, List.length_map, x1, ld9, e4, e5, w1]
            refine seqK_n ⟨k + 1, ⟨hlt, ?_⟩, by omega, by kernel_rfl, rfl⟩
            rw [List.take_add_one, gw]
            intro e he
            rcases List.mem_append.1 he with he | he
            · exact hpre e he
            · simp at he; subst he; exact ⟨h2, hb rfl⟩
          | false =>
            simp only [fr, ↓RP, RS, Int.reduceBEq, Int.reduceBNe, Int.reduceLT, Int.reduceLE, Int.reduceAdd, Int.reduceSub, ↓reduceIte, Nat.reduceAdd, Nat.reduceMul, Nat.reduceSub, Nat.reduceLT, Nat.reduceLeDiff, Nat.reduceEqDiff, decide_true, decide_false, fieldAddrF, undE, tupE, W13, List.length_map, x1, ld9, e4, e5]
            exact hK.ret (by rfl) ⟨rfl, false, rfl, fun e => by cases e⟩
        · have e5 : decide (500 < (tx.length : Int)) = true := decide_eq_true (by omega)
          simp only [fr, ↓RP, RS, Int.reduceBEq, Int.reduceBNe, Int.reduceLT, Int.reduceLE, Int.reduceAdd, Int.reduceSub, ↓reduceIte, Nat.reduceAdd, Nat.reduceMul, Nat.reduceSub, Nat.reduceLT, Nat.reduceLeDiff, Nat.reduceEqDiff, decide_true, decide_false, fieldAddrF, undE, tupE, W13, List.length_map, x1, ld9, e4, e5]
          exact hK.ret (by rfl) ⟨rfl, false, rfl, fun e => by cases e⟩
      · have e4 : decide (100 < (id.length : Int)) = true := decide_eq_true (by omega)
        simp only [fr, ↓RP, RS, Int.reduceBEq, Int.reduceBNe, Int.reduceLT, Int.reduceLE, Int.reduceAdd, Int.reduceSub, ↓reduceIte, Nat.reduceAdd, Nat.reduceMul, Nat.reduceSub, Nat.reduceLT, Nat.reduceLeDiff, Nat.reduceEqDiff, decide_true, decide_false, fieldAddrF, undE, tupE, W13, List.length_map, x1, ld9, e4]
        exact hK.ret (by rfl) ⟨rfl, false, rfl, fun e => by cases e⟩
    · have e3 : decide ((k : Int) < (ss.length : Int)) = false := decide_eq_false (by omega)
      rw [List.take_of_length_le (by omega)] at hpre
      simp only [fr, ↓RP, RS, Int.reduceBEq, Int.reduceBNe, Int.reduceLT, Int.reduceLE, Int.reduceAdd, Int.reduceSub, ↓reduceIte, Nat.reduceAdd, Nat.reduceMul, Nat.reduceSub, Nat.reduceLT, Nat.reduceLeDiff, Nat.reduceEqDiff, decide_true, decide_false, fieldAddrF, undE, tupE, W13, List.length_map, e3]
      exact hK.ret (by rfl) ⟨rfl, true, rfl, fun _ => ⟨h8, hpre⟩⟩
  · have e0 : decide (40 < (ss.length : Int)) = true := decide_eq_true (by omega)
    simp only [e13, c13, p13, Try.f13, codeOf, comp, opsOf, stOf, cop, cstp, copAt, planFor, List.find?, List.find?_nil, Option.map_none, Option.getD_none, List.any_cons, List.any_nil, Stp.idx, Bool.or_false, Nat.reduceBEq, ↓RP, RS, Int.reduceBEq, Int.reduceBNe, Int.reduceLT, Int.reduceLE, Int.reduceAdd, Int.reduceSub, ↓reduceIte, Nat.reduceAdd, Nat.reduceMul, Nat.reduceSub, Nat.reduceLT, Nat.reduceLeDiff, Nat.reduceEqDiff, decide_true, decide_false, fieldAddrF, undE, tupE, W13, List.length_map, e0]
    exact hK.ret (by rfl) ⟨rfl, false, rfl, fun e => by cases e⟩

/-! ### the calls of Set and Remove -/
def doA (A : W → List W) (e : StepI) : W → List W :=
  if andI e.1 = 0 ∨ andI e.1 = 1 then updA A e.2.1 (wordsOf e.2.2.1) else if andI e.1 = 2 then updA A e.2.1 [] else A
def setA (A : W → List W) (ss : List StepI) : W → List W := ss.foldl doA A
def BndA (A : W → List W) : Prop := ∀ id, (A id).length ≤ 1048576
theorem BndA.upd {A : W → List W} (h : BndA A) {id : W} {ws : List W} (hw : ws.length ≤ 1048576) : BndA (updA A id ws) := fun id' => by
  unfold updA; split
  · exact hw
  · exact h id'

theorem set22 {σ : List Ob} {x t i : Nat} {S : Nat → Prop} {A : W → List W} {L : List W} (h : IxG σ x t i S A L) (hA : BndA A) (ss : List StepI) (hs : Few ss) :
    callA Try.prog 22 [.ptr x 0 0, stepsV ss] σ fun r σ' => r = .tup [] ∧ ∃ S' L', IxG σ' x t i S' (setA A ss) L' ∧ BndA (setA A ss) ∧ L'.length ≤ L.length + ss.length ∧ Keeps S σ σ' ∧ ∀ o, S' o → S o ∨ σ.length ≤ o := by
  refine w22.go fun K hK => ?_
  simp only [e22, c22, p22, Try.f22, codeOf, comp, opsOf, stOf, cop, cstp, copAt, planFor, List.find?, List.find?_nil, Option.map_none, Option.getD_none, List.any_cons, List.any_nil, Stp.idx, Bool.or_false, Nat.reduceBEq, ↓RP, RS, Int.reduceBEq, Int.reduceBNe, Int.reduceLT, Int.reduceLE, Int.reduceAdd, Int.reduceSub, ↓reduceIte, Nat.reduceAdd, Nat.reduceMul, Nat.reduceSub, Nat.reduceLT, Nat.reduceLeDiff, Nat.reduceEqDiff, decide_true, decide_false, fieldAddrF, undE, tupE, W22, List.length_map]
  refine Loop_k [0, 1, 4] (fun y : Nat × List Ob => fr 0 41 [(0, .ptr x 0 0), (1, stepsV ss), (4, .d (.int .i64 y.1))]) (fun y => y.2) (fun y => y.1 ≤ ss.length ∧ ∃ S' L', IxG y.2 x t i S' (setA A (ss.take y.1)) L' ∧ BndA (setA A (ss.take y.1)) ∧ L'.length ≤ L.length + y.1 ∧ Keeps S σ y.2 ∧ ∀ o, S' o → S o ∨ σ.length ≤ o) (fun y => ss.length - y.1) (0, σ) (by kernel_rfl) rfl ⟨Nat.zero_le _, S, L, by simpa [setA] using h, by simpa [setA] using hA, by simp, Keeps.refl _ _, fun o ho => .inl ho⟩ fun ⟨k, sk⟩ ⟨hk, S', L', hI, hB, hL, hkp, hS'⟩ => ?_
  simp only at hk hI hB hL hkp hS' ⊢
  have h40 := hs.1
  by_cases hlt : k < ss.length
  · have e3 : decide ((k : Int) < (ss.length : Int)) = true := decide_eq_true (by omega)
    have w1 : IntKind.i64.wrap ((k : Int) + 1) = ((k + 1 : Nat) : Int) := by rw [IntWalk.i64_in _ (by omega)]; rfl
    obtain ⟨⟨d, id, tx, ws⟩, gw⟩ : ∃ w, ss[k]? = some w := ⟨_, List.getElem?_eq_getElem hlt⟩
    have x1 := step_at gw
    have htx := (hs.2 _ (List.mem_of_getElem? gw)).1
    simp only at htx
    have hwl := wordsOf_len tx
    have hst : setA A (ss.take (k + 1)) = doA (setA A (ss.take k)) (d, id, tx, ws) := by
      unfold setA
      rw [List.take_add_one, gw, List.foldl_append]; rfl
    have ban := fun σ => bin_andI Try.prog 3 σ d
    have kpS : ∀ {σ' : List Ob}, Keeps S' sk σ' → Keeps S σ σ' := fun {σ'} g => by
      refine ⟨Nat.le_trans hkp.1 g.1, fun o ho hn => ?_⟩
      have hol : o < sk.length := Nat.lt_of_lt_of_le ho hkp.1
      rw [g.2 o hol fun ht => ?_, hkp.2 o ho hn]
      rcases hS' o ht with g | g
      · exact hn g
      · omega
    have done : ∀ (s' : List V) (σ' : List Ob) (S'' : Nat → Prop) (L'' : List W), IxG σ' x t i S'' (doA (setA A (ss.take k)) (d, id, tx, ws)) L'' → BndA (doA (setA A (ss.take k)) (d, id, tx, ws)) → L''.length ≤ L.length + (k + 1) → Keeps S σ σ' → (∀ o, S'' o → S o ∨ σ.length ≤ o) → keepS [0, 1, 4] 0 s' = fr 0 41 [(0, .ptr x 0 0), (1, stepsV ss), (4, .d (.int .i64 (k + 1 : Nat)))] →
        ∃ y : Nat × List Ob, (y.1 ≤ ss.length ∧ ∃ S' L', IxG y.2 x t i S' (setA A (ss.take y.1)) L' ∧ BndA (setA A (ss.take y.1)) ∧ L'.length ≤ L.length + y.1 ∧ Keeps S σ y.2 ∧ ∀ o, S' o → S o ∨ σ.length ≤ o) ∧ ss.length - y.1 < ss.length - k ∧ keepS [0, 1, 4] 0 s' = fr 0 41 [(0, .ptr x 0 0), (1, stepsV ss), (4, .d (.int .i64 y.1))] ∧ σ' = y.2 := by
      intro s' σ' S'' L'' h1 h2 h3 h4 h5 h6
      exact ⟨(k + 1, σ'), ⟨hlt, S'', L'', by rw [hst]; exact h1, by rw [hst]; exact h2, h3, h4, h5⟩, by simp only; omega, h6, rfl⟩
    by_cases c0 : andI d = 0 ∨ andI d = 1
    · have hdo : doA (setA A (ss.take k)) (d, id, tx, ws) = updA (setA A (ss.take k)) id (wordsOf tx) := by simp only [doA]; rw [if_pos c0]
      rw [hdo] at done
      have fin : callA Try.prog 15 [.ptr x 0 0, .d (.str id), .d (.str tx)] sk _ := set15 hI id tx (hB id) (by omega)
      rcases c0 with c0 | c0
      · have z0 : (andI d == 0) = true := by simpa using c0
        simp only [fr, ↓RP, RS, Int.reduceBEq, Int.reduceBNe, Int.reduceLT, Int.reduceLE, Int.reduceAdd, Int.reduceSub, ↓reduceIte, Nat.reduceAdd, Nat.reduceMul, Nat.reduceSub, Nat.reduceLT, Nat.reduceLeDiff, Nat.reduceEqDiff, decide_true, decide_false, fieldAddrF, undE, tupE, W22, List.length_map, e3, x1, ld3, ld9, ban, z0]
        refine CallK_use' fin fun v0 s1 ⟨q1, S2, I2, kp2, hS2⟩ => ?_
        subst q1
        simp only [↓RP, RS, Int.reduceBEq, Int.reduceBNe, Int.reduceLT, Int.reduceLE, Int.reduceAdd, Int.reduceSub, ↓reduceIte, Nat.reduceAdd, Nat.reduceMul, Nat.reduceSub, Nat.reduceLT, Nat.reduceLeDiff, Nat.reduceEqDiff, decide_true, decide_false, fieldAddrF, undE, tupE, W22, w1]
        refine seqK_n (done _ _ S2 _ I2 (hB.upd (by omega)) (by simp; omega) (kpS kp2) (fun o ho => ?_) (by kernel_rfl))
        rcases hS2 o ho with g | g
        · exact hS' o g
        · exact .inr (Nat.le_trans hkp.1 g)
      · have z0 : (andI d == 0) = false := by rw [c0]; rfl
        have z1 : (andI d == 1) = true := by simpa using c0
        simp only [fr, ↓RP, RS, Int.reduceBEq, Int.reduceBNe, Int.reduceLT, Int.reduceLE, Int.reduceAdd, Int.reduceSub, ↓reduceIte, Nat.reduceAdd, Nat.reduceMul, Nat.reduceSub, Nat.reduceLT, Nat.reduceLeDiff, Nat.reduceEqDiff, decide_true, decide_false, fieldAddrF, undE, tupE, W22, List.length_map, e3, x1, ld3, ld9, ban, z0, z1]
        refine CallK_use' fin fun v0 s1 ⟨q1, S2, I2, kp2, hS2⟩ => ?_
        subst q1
        simp only [↓RP, RS, Int.reduceBEq, Int.reduceBNe, Int.reduceLT, Int.reduceLE, Int.reduceAdd, Int.reduceSub, ↓reduceIte, Nat.reduceAdd, Nat.reduceMul, Nat.reduceSub, Nat.reduceLT, Nat.reduceLeDiff, Nat.reduceEqDiff, decide_true, decide_false, fieldAddrF, undE, tupE, W22, w1]
        refine seqK_n (done _ _ S2 _ I2 (hB.upd (by omega)) (by simp; omega) (kpS kp2) (fun o ho => ?_) (by kernel_rfl))
        rcases hS2 o ho with g | g
        · exact hS' o g
        · exact .inr (Nat.le_trans hkp.1 g)
    · have z0 : (andI d == 0) = false := by simpa using fun e => c0 (.inl e)
      have z1 : (andI d == 1) = false := by simpa using fun e => c0 (.inr e)
      by_cases c2 : andI d = 2
      · have z2 : (andI d == 2) = true := by simpa using c2
        have hdo : doA (setA A (ss.take k)) (d, id, tx, ws) = updA (setA A (ss.take k)) id [] := by simp only [doA]; rw [if_neg c0, if_pos c2]
        rw [hdo] at done
        simp only [fr, ↓RP, RS, Int.reduceBEq, Int.reduceBNe, Int.reduceLT, Int.reduceLE, Int.reduceAdd, Int.reduceSub, ↓reduceIte, Nat.reduceAdd, Nat.reduceMul, Nat.reduceSub, Nat.reduceLT, Nat.reduceLeDiff, Nat.reduceEqDiff, decide_true, decide_false, fieldAddrF, undE, tupE, W22, List.length_map, e3, x1, ld3, ld9, ban, z0, z1, z2]
        refine CallK_use' (remove17 hI id (hB id)) fun v0 s1 ⟨q1, I2, kp2⟩ => ?_
        subst q1
        simp only [↓RP, RS, Int.reduceBEq, Int.reduceBNe, Int.reduceLT, Int.reduceLE, Int.reduceAdd, Int.reduceSub, ↓reduceIte, Nat.reduceAdd, Nat.reduceMul, Nat.reduceSub, Nat.reduceLT, Nat.reduceLeDiff, Nat.reduceEqDiff, decide_true, decide_false, fieldAddrF, undE, tupE, W22, w1]
        exact seqK_n (done _ _ S' _ I2 (hB.upd (by simp)) (by omega) (kpS kp2) hS' (by kernel_rfl))
      · have z2 : (andI d == 2) = false := by simpa using c2
        have hdo : doA (setA A (ss.take k)) (d, id, tx, ws) = setA A (ss.take k) := by simp only [doA]; rw [if_neg c0, if_neg c2]
        rw [hdo] at done
        simp only [fr, ↓RP, RS, Int.reduceBEq, Int.reduceBNe, Int.reduceLT, Int.reduceLE, Int.reduceAdd, Int.reduceSub, ↓reduceIte, Nat.reduceAdd, Nat.reduceMul, Nat.reduceSub, Nat.reduceLT, Nat.reduceLeDiff, Nat.reduceEqDiff, decide_true, decide_false, fieldAddrF, undE, tupE, W22, List.length_map, e3, x1, ld3, ld9, ban, z0, z1, z2, w1]
        exact seqK_n (done _ _ S' _ hI hB (by omega) hkp hS' (by kernel_rfl))
  · have e3 : decide ((k : Int) < (ss.length : Int)) = false := decide_eq_false (by omega)
    rw [List.take_of_length_le (by omega)] at hI hB
    simp only [fr, ↓RP, RS, Int.reduceBEq, Int.reduceBNe, Int.reduceLT, Int.reduceLE, Int.reduceAdd, Int.reduceSub, ↓reduceIte, Nat.reduceAdd, Nat.reduceMul, Nat.reduceSub, Nat.reduceLT, Nat.reduceLeDiff, Nat.reduceEqDiff, decide_true, decide_false, fieldAddrF, undE, tupE, W22, List.length_map, e3]
    exact hK.nrm (by rfl) ⟨rfl, S', L', hI, hB, by omega, hkp, hS'⟩
end Go.Proofs.Ytjidelngljpbdaa.Am
