/- The law IndexTells. -/
import Derived.Test.YtjidelngljpbdaaIu
import Derived.Test.YtjidelngljpbdaaIq
set_option linter.unusedSimpArgs false
set_option linter.unusedVariables false
set_option maxRecDepth 10000
set_option maxHeartbeats 4000000
namespace Go.Proofs.Ytjidelngljpbdaa.Am
open Go Go.Proofs

/-- The reference holds the texts of the index. -/
structure RelT (A : W → List W) (l : List TxI) : Prop where
  nd : (l.map (·.1)).Nodup
  yes : ∀ e ∈ l, A e.1 = wordsOf e.2
  no : ∀ id, id ∉ l.map (·.1) → A id = []
theorem mem_dropT {id : W} {l : List TxI} {e : TxI} : e ∈ dropT id l ↔ e ∈ l ∧ e.1 ≠ id := by
  unfold dropT; rw [List.mem_filter]; simp
theorem RelT.rem {A : W → List W} {l : List TxI} (h : RelT A l) (id : W) : RelT (updA A id []) (dropT id l) := by
  refine ⟨h.nd.sublist ((List.filter_sublist).map _), fun e he => ?_, fun id' hn => ?_⟩
  · obtain ⟨h1, h2⟩ := mem_dropT.1 he
    unfold updA; rw [if_neg h2]; exact h.yes e h1
  · unfold updA
    by_cases e : id' = id
    · rw [if_pos e]
    · rw [if_neg e]
      refine h.no id' fun hm => hn ?_
      obtain ⟨e', he', rfl⟩ := List.mem_map.1 hm
      exact List.mem_map.2 ⟨e', mem_dropT.2 ⟨he', e⟩, rfl⟩
theorem RelT.set {A : W → List W} {l : List TxI} (h : RelT A l) (id tx : W) : RelT (updA A id (wordsOf tx)) (dropT id l ++ [(id, tx)]) := by
  have hr := h.rem id
  refine ⟨?_, fun e he => ?_, fun id' hn => ?_⟩
  · rw [List.map_append]
    refine List.nodup_append.2 ⟨hr.nd, by simp, fun a ha b hb => ?_⟩
    simp at hb; subst hb
    obtain ⟨e', he', rfl⟩ := List.mem_map.1 ha
    exact (mem_dropT.1 he').2
  · rcases List.mem_append.1 he with g | g
    · obtain ⟨h1, h2⟩ := mem_dropT.1 g
      unfold updA; rw [if_neg h2]; exact h.yes e h1
    · simp at g; subst g; unfold updA; rw [if_pos rfl]
  · rw [List.map_append, List.mem_append, not_or] at hn
    have hne : id' ≠ id := fun e => hn.2 (by simp [e])
    have := hr.no id' hn.1
    unfold updA at this ⊢
    rw [if_neg hne] at this ⊢; exact this
theorem RelT.found {A : W → List W} {l : List TxI} (h : RelT A l) {ws out : List W} (ha : Asc out) (hm : ∀ id, id ∈ out ↔ ws ≠ [] ∧ ∃ e ∈ l, e.1 = id ∧ goodT ws e.2 = true) : FoundOk A ws out := by
  refine ⟨ha, fun id => ?_⟩
  rw [hm]
  constructor
  · rintro ⟨h1, e, he, rfl, hg⟩
    refine ⟨h1, fun w hw => ?_⟩
    rw [h.yes e he]
    simp only [goodT, List.all_eq_true, decide_eq_true_eq] at hg
    exact hg w hw
  · rintro ⟨h1, h2⟩
    refine ⟨h1, ?_⟩
    obtain ⟨w, ws', rfl⟩ : ∃ w ws', ws = w :: ws' := by
      cases ws with
      | nil => exact (h1 rfl).elim
      | cons w ws' => exact ⟨w, ws', rfl⟩
    have hid : id ∈ l.map (·.1) := by
      by_cases hn : id ∈ l.map (·.1)
      · exact hn
      · have := h2 w (by simp)
        rw [h.no id hn] at this; cases this
    obtain ⟨e, he, rfl⟩ := List.mem_map.1 hid
    refine ⟨e, he, rfl, ?_⟩
    simp only [goodT, List.all_eq_true, decide_eq_true_eq]
    intro w' hw'
    have := h2 w' hw'
    rw [h.yes e he] at this; exact this

theorem tells4 (ss : List StepI) : callA Try.prog 4 [stepsV ss] [] fun r _ => r = .d (.bool true) := by
  refine w4.go fun K hK => ?_
  simp only [e4, c4, p4, Try.f4, codeOf, comp, opsOf, stOf, cop, cstp, copAt, planFor, List.find?, List.find?_nil, Option.map_none, Option.getD_none, List.any_cons, List.any_nil, Stp.idx, Bool.or_false, Nat.reduceBEq, ↓RP, RS, Int.reduceBEq, Int.reduceBNe, Int.reduceLT, Int.reduceLE, Int.reduceAdd, Int.reduceSub, ↓reduceIte, Nat.reduceAdd, Nat.reduceMul, Nat.reduceSub, Nat.reduceLT, Nat.reduceLeDiff, Nat.reduceEqDiff, decide_true, decide_false, fieldAddrF, undE, tupE, W4]
  refine CallK_use' (small8 []) fun v0 s1 ⟨q1, q2⟩ => ?_
  subst q1; rw [q2]
  simp only [↓RP, RS, Int.reduceBEq, Int.reduceBNe, Int.reduceLT, Int.reduceLE, Int.reduceAdd, Int.reduceSub, ↓reduceIte, Nat.reduceAdd, Nat.reduceMul, Nat.reduceSub, Nat.reduceLT, Nat.reduceLeDiff, Nat.reduceEqDiff, decide_true, decide_false, fieldAddrF, undE, tupE, W4]
  refine CallK_use' (few13 ss []) fun v0 s1 ⟨q2, b1, q1, f1⟩ => ?_
  subst q1; rw [q2]
  simp only [↓RP, RS, Int.reduceBEq, Int.reduceBNe, Int.reduceLT, Int.reduceLE, Int.reduceAdd, Int.reduceSub, ↓reduceIte, Nat.reduceAdd, Nat.reduceMul, Nat.reduceSub, Nat.reduceLT, Nat.reduceLeDiff, Nat.reduceEqDiff, decide_true, decide_false, fieldAddrF, undE, tupE, W4]
  refine CallK_use' (new14 []) fun v0 s1 ⟨x, t, i, S1, q1, I1, kp1, hS1⟩ => ?_
  subst q1
  have ax := I1.alive
  cases b1 with
  | false =>
    simp only [↓RP, RS, Int.reduceBEq, Int.reduceBNe, Int.reduceLT, Int.reduceLE, Int.reduceAdd, Int.reduceSub, ↓reduceIte, Nat.reduceAdd, Nat.reduceMul, Nat.reduceSub, Nat.reduceLT, Nat.reduceLeDiff, Nat.reduceEqDiff, decide_true, decide_false, fieldAddrF, undE, tupE, W4, ax]
    exact hK.ret (by rfl) rfl
  | true =>
  have hfs := f1 rfl
  have h40 := hfs.1
  have hB0 : BndA (fun _ => []) := fun _ => by simp
  simp only [↓RP, RS, Int.reduceBEq, Int.reduceBNe, Int.reduceLT, Int.reduceLE, Int.reduceAdd, Int.reduceSub, ↓reduceIte, Nat.reduceAdd, Nat.reduceMul, Nat.reduceSub, Nat.reduceLT, Nat.reduceLeDiff, Nat.reduceEqDiff, decide_true, decide_false, fieldAddrF, undE, tupE, W4, ax]
  refine Loop_k [0, 3, 5, 6, 7] (fun y : Nat × V × List Ob => fr 0 97 [(0, stepsV ss), (3, .d (.bool true)), (5, .ptr x 0 0), (6, y.2.1), (7, .d (.int .i64 y.1))]) (fun y => y.2.2)
    (fun y => y.1 ≤ ss.length ∧ ∃ S A L l, IxG y.2.2 x t i S A L ∧ BndA A ∧ L.length ≤ y.1 ∧ TxAt y.2.2 y.2.1 l ∧ RelT A l ∧ l.length ≤ y.1 ∧ (∀ e ∈ l, e.2.length ≤ 1000) ∧ (∀ q o n, y.2.1 = .sl q o n → ¬ S q)) (fun y => ss.length - y.1) (0, .d .nils, s1) (by kernel_rfl) rfl ⟨Nat.zero_le _, S1, _, [], [], I1, hB0, by simp, .nil, ⟨by simp, by simp, fun _ _ => rfl⟩, by simp, by simp, by simp⟩ fun ⟨k, v, sk⟩ ⟨hk, S, A, L, l, hI, hB, hL, hT, hR, hll, hlt', hvS⟩ => ?_
  simp only at hk hI hB hL hT hR hll hlt' hvS ⊢
  by_cases hlt : k < ss.length
  · have e3 : decide ((k : Int) < (ss.length : Int)) = true := decide_eq_true (by omega)
    have w1 : IntKind.i64.wrap ((k : Int) + 1) = ((k + 1 : Nat) : Int) := by rw [IntWalk.i64_in _ (by omega)]; rfl
    obtain ⟨⟨d, id, tx, ws⟩, gw⟩ : ∃ w, ss[k]? = some w := ⟨_, List.getElem?_eq_getElem hlt⟩
    have x1 := step_at gw
    have htx := hfs.2 _ (List.mem_of_getElem? gw)
    simp only at htx
    obtain ⟨htx, hws⟩ := htx
    have hwl := wordsOf_len tx
    have hdl := dropT_len id l
    have ban := fun σ => bin_andI Try.prog 3 σ d
    have done : ∀ (s' : List V) (σ' : List Ob) (v' : V) (S' : Nat → Prop) (A' : W → List W) (L' : List W) (l' : List TxI), IxG σ' x t i S' A' L' → BndA A' → L'.length ≤ k + 1 → TxAt σ' v' l' → RelT A' l' → l'.length ≤ k + 1 → (∀ e ∈ l', e.2.length ≤ 1000) → (∀ q o n, v' = .sl q o n → ¬ S' q) → keepS [0, 3, 5, 6, 7] 0 s' = fr 0 97 [(0, stepsV ss), (3, .d (.bool true)), (5, .ptr x 0 0), (6, v'), (7, .d (.int .i64 (k + 1 : Nat)))] →
        ∃ y : Nat × V × List Ob, (y.1 ≤ ss.length ∧ ∃ S A L l, IxG y.2.2 x t i S A L ∧ BndA A ∧ L.length ≤ y.1 ∧ TxAt y.2.2 y.2.1 l ∧ RelT A l ∧ l.length ≤ y.1 ∧ (∀ e ∈ l, e.2.length ≤ 1000) ∧ (∀ q o n, y.2.1 = .sl q o n → ¬ S q)) ∧ ss.length - y.1 < ss.length - k ∧ keepS [0, 3, 5, 6, 7] 0 s' = fr 0 97 [(0, stepsV ss), (3, .d (.bool true)), (5, .ptr x 0 0), (6, y.2.1), (7, .d (.int .i64 y.1))] ∧ σ' = y.2.2 := by
      intro s' σ' v' S' A' L' l' h1 h2 h3 h4 h5 h6 h7 h8 h9
      exact ⟨(k + 1, v', σ'), ⟨hlt, S', A', L', l', h1, h2, h3, h4, h5, h6, h7, h8⟩, by simp only; omega, h9, rfl⟩
    by_cases c0 : andI d = 0 ∨ andI d = 1
    · have fin : callA Try.prog 15 [.ptr x 0 0, .d (.str id), .d (.str tx)] sk _ := set15 hI id tx (hB id) (by omega)
      rcases c0 with c0 | c0
      · have z0 : (andI d == 0) = true := by simpa using c0
        simp only [fr, ↓RP, RS, Int.reduceBEq, Int.reduceBNe, Int.reduceLT, Int.reduceLE, Int.reduceAdd, Int.reduceSub, ↓reduceIte, Nat.reduceAdd, Nat.reduceMul, Nat.reduceSub, Nat.reduceLT, Nat.reduceLeDiff, Nat.reduceEqDiff, decide_true, decide_false, fieldAddrF, undE, tupE, W4, List.length_map, e3, x1, ld3, ld9, ban, z0]
        refine CallK_use' fin fun v0 s2 ⟨q1, S2, I2, kp2, hS2⟩ => ?_
        subst q1
        have T2 := hT.keep kp2 hvS
        simp only [↓RP, RS, Int.reduceBEq, Int.reduceBNe, Int.reduceLT, Int.reduceLE, Int.reduceAdd, Int.reduceSub, ↓reduceIte, Nat.reduceAdd, Nat.reduceMul, Nat.reduceSub, Nat.reduceLT, Nat.reduceLeDiff, Nat.reduceEqDiff, decide_true, decide_false, fieldAddrF, undE, tupE, W4, x1, ld9]
        refine CallK_use' (rset16 T2 (by omega) id tx) fun v3 s3 ⟨T3, kp3, n3⟩ => ?_
        have I3 := I2.keep kp3 (fun _ _ h => h)
        simp only [↓RP, RS, Int.reduceBEq, Int.reduceBNe, Int.reduceLT, Int.reduceLE, Int.reduceAdd, Int.reduceSub, ↓reduceIte, Nat.reduceAdd, Nat.reduceMul, Nat.reduceSub, Nat.reduceLT, Nat.reduceLeDiff, Nat.reduceEqDiff, decide_true, decide_false, fieldAddrF, undE, tupE, W4, w1]
        refine seqK_n (done _ _ v3 S2 _ _ _ I3 (hB.upd (by omega)) (by simp; omega) T3 (hR.set id tx) (by simp; omega) (fun e he => ?_) (fun q o n e hS => by have := n3 q o n e; have := I2.lt hS; omega) (by kernel_rfl))
        rcases List.mem_append.1 he with he | he
        · exact hlt' e (mem_dropT.1 he).1
        · simp at he; subst he; simp only; omega
      · have z0 : (andI d == 0) = false := by rw [c0]; rfl
        have z1 : (andI d == 1) = true := by simpa using c0
        simp only [fr, ↓RP, RS, Int.reduceBEq, Int.reduceBNe, Int.reduceLT, Int.reduceLE, Int.reduceAdd, Int.reduceSub, ↓reduceIte, Nat.reduceAdd, Nat.reduceMul, Nat.reduceSub, Nat.reduceLT, Nat.reduceLeDiff, Nat.reduceEqDiff, decide_true, decide_false, fieldAddrF, undE, tupE, W4, List.length_map, e3, x1, ld3, ld9, ban, z0, z1]
        refine CallK_use' fin fun v0 s2 ⟨q1, S2, I2, kp2, hS2⟩ => ?_
        subst q1
        have T2 := hT.keep kp2 hvS
        simp only [↓RP, RS, Int.reduceBEq, Int.reduceBNe, Int.reduceLT, Int.reduceLE, Int.reduceAdd, Int.reduceSub, ↓reduceIte, Nat.reduceAdd, Nat.reduceMul, Nat.reduceSub, Nat.reduceLT, Nat.reduceLeDiff, Nat.reduceEqDiff, decide_true, decide_false, fieldAddrF, undE, tupE, W4, x1, ld9]
        refine CallK_use' (rset16 T2 (by omega) id tx) fun v3 s3 ⟨T3, kp3, n3⟩ => ?_
        have I3 := I2.keep kp3 (fun _ _ h => h)
        simp only [↓RP, RS, Int.reduceBEq, Int.reduceBNe, Int.reduceLT, Int.reduceLE, Int.reduceAdd, Int.reduceSub, ↓reduceIte, Nat.reduceAdd, Nat.reduceMul, Nat.reduceSub, Nat.reduceLT, Nat.reduceLeDiff, Nat.reduceEqDiff, decide_true, decide_false, fieldAddrF, undE, tupE, W4, w1]
        refine seqK_n (done _ _ v3 S2 _ _ _ I3 (hB.upd (by omega)) (by simp; omega) T3 (hR.set id tx) (by simp; omega) (fun e he => ?_) (fun q o n e hS => by have := n3 q o n e; have := I2.lt hS; omega) (by kernel_rfl))
        rcases List.mem_append.1 he with he | he
        · exact hlt' e (mem_dropT.1 he).1
        · simp at he; subst he; simp only; omega
    · have z0 : (andI d == 0) = false := by simpa using fun e => c0 (.inl e)
      have z1 : (andI d == 1) = false := by simpa using fun e => c0 (.inr e)
      by_cases c2 : andI d = 2
      · have z2 : (andI d == 2) = true := by simpa using c2
        simp only [fr, ↓RP, RS, Int.reduceBEq, Int.reduceBNe, Int.reduceLT, Int.reduceLE, Int.reduceAdd, Int.reduceSub, ↓reduceIte, Nat.reduceAdd, Nat.reduceMul, Nat.reduceSub, Nat.reduceLT, Nat.reduceLeDiff, Nat.reduceEqDiff, decide_true, decide_false, fieldAddrF, undE, tupE, W4, List.length_map, e3, x1, ld3, ld9, ban, z0, z1, z2]
        refine CallK_use' (remove17 hI id (hB id)) fun v0 s2 ⟨q1, I2, kp2⟩ => ?_
        subst q1
        have T2 := hT.keep kp2 hvS
        simp only [↓RP, RS, Int.reduceBEq, Int.reduceBNe, Int.reduceLT, Int.reduceLE, Int.reduceAdd, Int.reduceSub, ↓reduceIte, Nat.reduceAdd, Nat.reduceMul, Nat.reduceSub, Nat.reduceLT, Nat.reduceLeDiff, Nat.reduceEqDiff, decide_true, decide_false, fieldAddrF, undE, tupE, W4, x1, ld9]
        refine CallK_use' (rem18 T2 (by omega) id) fun v3 s3 ⟨T3, kp3, n3⟩ => ?_
        have I3 := I2.keep kp3 (fun _ _ h => h)
        simp only [↓RP, RS, Int.reduceBEq, Int.reduceBNe, Int.reduceLT, Int.reduceLE, Int.reduceAdd, Int.reduceSub, ↓reduceIte, Nat.reduceAdd, Nat.reduceMul, Nat.reduceSub, Nat.reduceLT, Nat.reduceLeDiff, Nat.reduceEqDiff, decide_true, decide_false, fieldAddrF, undE, tupE, W4, w1]
        exact seqK_n (done _ _ v3 S _ _ _ I3 (hB.upd (by simp)) (by omega) T3 (hR.rem id) (by omega) (fun e he => hlt' e (mem_dropT.1 he).1) (fun q o n e hS => by have := n3 q o n e; have := I2.lt hS; omega) (by kernel_rfl))
      · have z2 : (andI d == 2) = false := by simpa using c2
        simp only [fr, ↓RP, RS, Int.reduceBEq, Int.reduceBNe, Int.reduceLT, Int.reduceLE, Int.reduceAdd, Int.reduceSub, ↓reduceIte, Nat.reduceAdd, Nat.reduceMul, Nat.reduceSub, Nat.reduceLT, Nat.reduceLeDiff, Nat.reduceEqDiff, decide_true, decide_false, fieldAddrF, undE, tupE, W4, List.length_map, e3, x1, ld3, ld9, ld23, ban, z0, z1, z2]
        refine CallK_use (find19 hI (by omega) ws (.val ws) (by omega)) fun v2 s2 ⟨l1, r1, g1, kp2, n2⟩ => ⟨?_, ?_⟩
        · simp only [chkC, wantC, ↓RP, RS, Int.reduceBEq, Int.reduceBNe, Int.reduceLT, Int.reduceLE, Int.reduceAdd, Int.reduceSub, ↓reduceIte, Nat.reduceAdd, Nat.reduceMul, Nat.reduceSub, Nat.reduceLT, Nat.reduceLeDiff, Nat.reduceEqDiff, decide_true, decide_false, fieldAddrF, undE, tupE, W4, x1, ld23]
        have T2 := hT.keep kp2 (fun _ _ _ _ h => h)
        have I2 := hI.keep kp2 (fun _ _ h => h)
        simp only [↓RP, RS, Int.reduceBEq, Int.reduceBNe, Int.reduceLT, Int.reduceLE, Int.reduceAdd, Int.reduceSub, ↓reduceIte, Nat.reduceAdd, Nat.reduceMul, Nat.reduceSub, Nat.reduceLT, Nat.reduceLeDiff, Nat.reduceEqDiff, decide_true, decide_false, fieldAddrF, undE, tupE, W4, x1, ld23]
        refine CallK_use' (rfind20 T2 (by omega) hlt' (.val ws) (by omega)) fun v3 s3 ⟨l2, r2, a2, m2, kp3⟩ => ?_
        have e12 := g1.eq (hR.found a2 m2)
        subst e12
        have T3 := T2.keep kp3 (fun _ _ _ _ h => h)
        have I3 := I2.keep kp3 (fun _ _ h => h)
        have hl1 := FoundOk.len hI g1
        simp only [↓RP, RS, Int.reduceBEq, Int.reduceBNe, Int.reduceLT, Int.reduceLE, Int.reduceAdd, Int.reduceSub, ↓reduceIte, Nat.reduceAdd, Nat.reduceMul, Nat.reduceSub, Nat.reduceLT, Nat.reduceLeDiff, Nat.reduceEqDiff, decide_true, decide_false, fieldAddrF, undE, tupE, W4]
        refine CallK_use' (same10 (r1.keep kp3 (fun _ _ _ _ h => h)) r2 (by omega)) fun v0 s4 ⟨q1, q2⟩ => ?_
        subst q1; rw [q2]
        have es : decide (l1 = l1) = true := decide_eq_true rfl
        simp only [es, ↓RP, RS, Int.reduceBEq, Int.reduceBNe, Int.reduceLT, Int.reduceLE, Int.reduceAdd, Int.reduceSub, ↓reduceIte, Nat.reduceAdd, Nat.reduceMul, Nat.reduceSub, Nat.reduceLT, Nat.reduceLeDiff, Nat.reduceEqDiff, decide_true, decide_false, fieldAddrF, undE, tupE, W4, w1]
        exact seqK_n (done _ _ v S A L l I3 hB (by omega) T3 hR (by omega) hlt' hvS (by kernel_rfl))
  · have e3 : decide ((k : Int) < (ss.length : Int)) = false := decide_eq_false (by omega)
    simp only [fr, ↓RP, RS, Int.reduceBEq, Int.reduceBNe, Int.reduceLT, Int.reduceLE, Int.reduceAdd, Int.reduceSub, ↓reduceIte, Nat.reduceAdd, Nat.reduceMul, Nat.reduceSub, Nat.reduceLT, Nat.reduceLeDiff, Nat.reduceEqDiff, decide_true, decide_false, fieldAddrF, undE, tupE, W4, List.length_map, e3]
    exact hK.ret (by rfl) rfl
end Go.Proofs.Ytjidelngljpbdaa.Am
