/- Walks: a message is sent, taken, lost, doubled. -/
import Derived.Test.YtadddaafajennaaNg
set_option linter.unusedSimpArgs false
set_option linter.unusedVariables false
set_option maxRecDepth 10000
namespace Go.Proofs.Ytadddaafajennaa.Am
open Go Go.Proofs

section
variable {σ : List Ob} {x n : Nat} {A : Links} {L : Nat} {R : Nat → Nat} {Q : Nat → Nat → Option Nat} {role : Nat → Role}

theorem put_ok (h : NetAt σ x n A L R Q role) {i j : Nat} (hi : i < n) (hj : j < n) {cs : List V} (hR : σ[R i]? = some (.box cs)) (hcs : ∀ j, j < n → cs[j * 2]? = some (cellQ (Q i j) (A i j).2.length) ∧ cs[j * 2 + 1]? = some (.d (.bool (A i j).1))) {m : D} (hm : MsgD m) (hf : (A i j).2.length < 1024) {σ' : List Ob} {q' : Option Nat}
    (k1 : σ'[R i]? = some (.box (cs.set (j * 2) (cellQ q' ((A i j).2.length + 1))))) (k2 : ArrQ σ' q' ((A i j).2 ++ [m])) (k3 : ∀ p, q' = some p → Q i j = some p ∨ σ.length ≤ p) (k4 : Keeps (fun p => p = R i ∨ Q i j = some p) σ σ') :
    ∃ Q' role', NetAt σ' x n (putS A i j m) L R Q' role' ∧ Kept role role' σ σ' := by
  obtain ⟨hk, _⟩ := List.getElem?_eq_some_iff.1 (hcs j hj).1
  refine h.step hi hj hR k1 (a' := ((A i j).1, (A i j).2 ++ [m])) (q' := q') ?_ ?_ ?_ k2 k4 k3 (by simp; omega) (fun m' hm' => ?_)
  · rw [List.getElem?_set_self hk]; simp
  · rw [List.getElem?_set_ne (by omega)]; exact (hcs j hj).2
  · intro k hk' _; rw [List.getElem?_set_ne (fun e => hk' e.symm)]
  · rcases List.mem_append.1 hm' with g | g
    · exact h.msg i j hi hj m' g
    · simp at g; subst g; exact hm

theorem send13 (h : NetAt σ x n A L R Q role) {m : List D} {f t : Int} {ents lk : List D} (hm : MsgOk m f t ents lk) : callA Try.prog 13 [.ptr x 0 0, .agg (m.map .d)] σ (fun r σ' => r = .d (.bool (decide (okS n A f t))) ∧ ∃ Q' role', NetAt σ' x n (if okS n A f t then putS A f.toNat t.toNat (.agg m) else A) L R Q' role' ∧ Kept role role' σ σ') := by
  refine w13.go fun K hK => ?_
  have h' := h.app [.box (m.map .d)]
  have g0 : (σ ++ [Ob.box (m.map .d)])[σ.length]? = some (.box (m.map .d)) := by simp
  have kp := Kept.app role σ [Ob.box (m.map .d)]
  generalize hσ1 : σ ++ [Ob.box (m.map .d)] = σ1 at h' g0 kp
  have a0 := alive_of g0 (by simp)
  have l1 := load_box (P := Try.prog) (t := 3) g0 (d_get hm.from_) (by simp only [W13]) (by simp only [W13])
  have l2 := load_box (P := Try.prog) (t := 3) g0 (d_get hm.to_) (by simp only [W13]) (by simp only [W13])
  have l3 := load_all (P := Try.prog) (t := 42) g0 (by simp [hm.len, W13]) (by simp only [W13]) (by simp [W13])
  simp only [e13, c13, p13, Try.f13, codeOf, comp, opsOf, stOf, cop, cstp, copAt, planFor, List.find?, List.find?_nil, Option.map_none, Option.getD_none, List.any_cons, List.any_nil, Stp.idx, Bool.or_false, Nat.reduceBEq, ↓RP, RS, Int.reduceBEq, Int.reduceBNe, Int.reduceLT, Int.reduceLE, Int.reduceAdd, Int.reduceSub, ↓reduceIte, Nat.reduceAdd, Nat.reduceMul, Nat.reduceSub, Nat.reduceLT, Nat.reduceLeDiff, Nat.reduceEqDiff, decide_true, decide_false, fieldAddrF, undE, tupE, W13, boxE, cellsV, hσ1, a0, l1, l2]
  by_cases hL : isL n f t
  · obtain ⟨i, hi⟩ : ∃ i : Nat, f = i := ⟨f.toNat, by unfold isL at hL; omega⟩
    obtain ⟨j, hj⟩ : ∃ j : Nat, t = j := ⟨t.toNat, by unfold isL at hL; omega⟩
    subst hi; subst hj
    have hi : i < n := by unfold isL at hL; omega
    have hj : j < n := by unfold isL at hL; omega
    refine CallK_use' (link35 h' hi hj (by unfold isL at hL; omega)) fun v σ' ⟨q1, q2⟩ => ?_
    subst q1; subst q2
    obtain ⟨cs, hR, hcs⟩ := h'.hR i hi
    have a1 := alive_of hR (by simp)
    have l4 := load_box (P := Try.prog) (t := 4) hR (hcs j hj).2 (by simp only [W13]) (by simp only [W13])
    simp only [okS, hL, true_and, Int.toNat_natCast] at hK
    cases ho : (A i j).1 with
    | true =>
      rw [ho] at l4
      simp only [↓RP, RS, Int.reduceBEq, Int.reduceBNe, Int.reduceLT, Int.reduceLE, Int.reduceAdd, Int.reduceSub, ↓reduceIte, Nat.reduceAdd, Nat.reduceMul, Nat.reduceSub, Nat.reduceLT, Nat.reduceLeDiff, Nat.reduceEqDiff, decide_true, decide_false, fieldAddrF, undE, tupE, W13, a1, l4]
      exact hK.ret (by rfl) ⟨by simp [ho], Q, role, by simpa [ho] using h', kp⟩
    | false =>
      rw [ho] at l4
      simp only [↓RP, RS, Int.reduceBEq, Int.reduceBNe, Int.reduceLT, Int.reduceLE, Int.reduceAdd, Int.reduceSub, ↓reduceIte, Nat.reduceAdd, Nat.reduceMul, Nat.reduceSub, Nat.reduceLT, Nat.reduceLeDiff, Nat.reduceEqDiff, decide_true, decide_false, fieldAddrF, undE, tupE, W13, a1, l4]
      refine CallK_use' (full36 hR (hcs j hj).1 (h'.hQ i j hi hj)) fun v σ'' ⟨q1, q2⟩ => ?_
      subst q1; subst q2
      by_cases hf : 1024 ≤ (A i j).2.length
      · have d1 : decide (1024 ≤ (A i j).2.length) = true := by simpa using hf
        have d2 : ¬ (A i j).2.length < 1024 := by omega
        simp only [↓RP, RS, Int.reduceBEq, Int.reduceBNe, Int.reduceLT, Int.reduceLE, Int.reduceAdd, Int.reduceSub, ↓reduceIte, Nat.reduceAdd, Nat.reduceMul, Nat.reduceSub, Nat.reduceLT, Nat.reduceLeDiff, Nat.reduceEqDiff, decide_true, decide_false, fieldAddrF, undE, tupE, W13, d1]
        exact hK.ret (by rfl) ⟨by simp [d2], Q, role, by simpa [d2] using h', kp⟩
      · have d1 : decide (1024 ≤ (A i j).2.length) = false := by simpa using hf
        have d2 : (A i j).2.length < 1024 := by omega
        simp only [↓RP, RS, Int.reduceBEq, Int.reduceBNe, Int.reduceLT, Int.reduceLE, Int.reduceAdd, Int.reduceSub, ↓reduceIte, Nat.reduceAdd, Nat.reduceMul, Nat.reduceSub, Nat.reduceLT, Nat.reduceLeDiff, Nat.reduceEqDiff, decide_true, decide_false, fieldAddrF, undE, tupE, W13, a1, l3, d1]
        refine CallK_use' (add37 (by omega) hR (hcs j hj).1 (h'.hQ i j hi hj) (fun p hp e => by have := h'.rR i hi; rw [← e, h'.rQ i j hi hj p hp] at this; cases this) hm) fun v σ'' ⟨q', k1, k2, k3, k4⟩ => ?_
        simp only [↓RP, RS, Int.reduceBEq, Int.reduceBNe, Int.reduceLT, Int.reduceLE, Int.reduceAdd, Int.reduceSub, ↓reduceIte, Nat.reduceAdd, Nat.reduceMul, Nat.reduceSub, Nat.reduceLT, Nat.reduceLeDiff, Nat.reduceEqDiff, decide_true, decide_false, fieldAddrF, undE, tupE]
        obtain ⟨Q', role', n1, n2⟩ := put_ok h' hi hj hR hcs ⟨m, _, _, ents, lk, rfl, hm⟩ d2 k1 k2 k3 k4
        exact hK.ret (by rfl) ⟨by simp [ho, d2], Q', role', by simpa [ho, d2] using n1, kp.trans n2⟩
  · refine CallK_use' (link35_no h' hL) fun v σ' ⟨q1, q2⟩ => ?_
    subst q1; subst q2
    simp only [↓RP, RS, Int.reduceBEq, Int.reduceBNe, Int.reduceLT, Int.reduceLE, Int.reduceAdd, Int.reduceSub, ↓reduceIte, Nat.reduceAdd, Nat.reduceMul, Nat.reduceSub, Nat.reduceLT, Nat.reduceLeDiff, Nat.reduceEqDiff, decide_true, decide_false, fieldAddrF, undE, tupE, W13]
    exact hK.ret (by rfl) ⟨by simp [okS, hL], Q, role, by simpa [okS, hL] using h', kp⟩

def hasT (n : Nat) (A : Links) (f t i : Int) : Prop := isL n f t ∧ 0 ≤ i ∧ i < (A f.toNat t.toNat).2.length
instance (n : Nat) (A : Links) (f t i : Int) : Decidable (hasT n A f t i) := by unfold hasT; infer_instance
def popS (A : Links) (i j k : Nat) : Links := upd2 A i j ((A i j).1, (A i j).2.eraseIdx k)
def noMsg : D := .agg (z42.map fun | .d d => d | _ => .any)
def msgT (n : Nat) (A : Links) (f t i : Int) : D := if hasT n A f t i then (A f.toNat t.toNat).2.getD i.toNat noMsg else noMsg

theorem pop_ok (h : NetAt σ x n A L R Q role) {i j k : Nat} (hi : i < n) (hj : j < n) {cs : List V} (hR : σ[R i]? = some (.box cs)) (hcs : ∀ j, j < n → cs[j * 2]? = some (cellQ (Q i j) (A i j).2.length) ∧ cs[j * 2 + 1]? = some (.d (.bool (A i j).1))) (hk : k < (A i j).2.length) {q : Nat} (hq : Q i j = some q) {σ' : List Ob}
    (k1 : σ'[R i]? = some (.box (cs.set (j * 2) (.sl q 0 ((A i j).2.length - 1))))) (k2 : ArrQ σ' (some q) ((A i j).2.eraseIdx k)) (k4 : Keeps (fun p => p = R i ∨ some q = some p) σ σ') :
    ∃ Q' role', NetAt σ' x n (popS A i j k) L R Q' role' ∧ Kept role role' σ σ' := by
  obtain ⟨hk', _⟩ := List.getElem?_eq_some_iff.1 (hcs j hj).1
  have le : ((A i j).2.eraseIdx k).length = (A i j).2.length - 1 := List.length_eraseIdx_of_lt hk
  refine h.step hi hj hR k1 (a' := ((A i j).1, (A i j).2.eraseIdx k)) (q' := some q) ?_ ?_ ?_ k2 (by rw [hq]; exact k4) (fun p hp => .inl (by rw [hq]; exact hp)) (by rw [le]; have := h.few i j hi hj; omega) (fun m' hm' => h.msg i j hi hj m' (List.mem_of_mem_eraseIdx hm'))
  · rw [List.getElem?_set_self hk', le]; rfl
  · rw [List.getElem?_set_ne (by omega)]; exact (hcs j hj).2
  · intro k hk' _; rw [List.getElem?_set_ne (fun e => hk' e.symm)]

theorem take15 (h : NetAt σ x n A L R Q role) (f t i : Int) : callA Try.prog 15 [.ptr x 0 0, .d (.int .i64 f), .d (.int .i64 t), .d (.int .i64 i)] σ (fun r σ' => r = .tup [.d (msgT n A f t i), .d (.bool (decide (hasT n A f t i)))] ∧ ∃ Q' role', NetAt σ' x n (if hasT n A f t i then popS A f.toNat t.toNat i.toNat else A) L R Q' role' ∧ Kept role role' σ σ') := by
  refine w15.go fun K hK => ?_
  have h' := h.app [.box z42]
  have g0 : (σ ++ [Ob.box z42])[σ.length]? = some (.box z42) := by simp
  have kp := Kept.app role σ [Ob.box z42]
  generalize hσ1 : σ ++ [Ob.box z42] = σ1 at h' g0 kp
  have gl1 : σ1.length = σ.length + 1 := by rw [← hσ1]; simp
  have a0 := alive_of g0 (by simp)
  have bz : ∀ s, buildF Try.prog 42 σ1 s [] = some (.agg z42) := fun s => by simp only [buildF, W15, fillV, Option.map_some]
  have sz := store_agg (P := Try.prog) (t := 42) (k := 0) (xs := z42) g0 (by rfl) (by simp) (by simp [W15]) (by simp [W15])
  rw [setAt_all rfl, set_same g0] at sz
  have lz := load_all (P := Try.prog) (t := 42) g0 (by simp [W15]) (by simp only [W15]) (by simp [W15])
  have no : ∀ s, ¬ hasT n A f t i → s.getD 8 .undef = .ptr σ.length 0 0 → s.getD 9 .undef = .d (.bool false) → K .ret s σ1 := fun s hn h8 h9 => by
    simp only [hn, if_false, decide_false] at hK
    refine hK.fin (r := .tup [.agg z42, .d (.bool false)]) (by simp only [resF, resAll, resOne, e15, h8, h9, lz]) (Fin.le (VLe_tup ?_)) ⟨rfl, Q, role, h', kp⟩
    exact ⟨_, _, rfl, by simp only [msgT, hn, if_false]; exact VLe.agg (z42.map fun | .d d => d | _ => .any), VLes.refl _⟩
  simp only [e15, c15, p15, Try.f15, codeOf, comp, opsOf, stOf, cop, cstp, copAt, planFor, List.find?, List.find?_nil, Option.map_none, Option.getD_none, List.any_cons, List.any_nil, Stp.idx, Bool.or_false, Nat.reduceBEq, ↓RP, RS, Int.reduceBEq, Int.reduceBNe, Int.reduceLT, Int.reduceLE, Int.reduceAdd, Int.reduceSub, ↓reduceIte, Nat.reduceAdd, Nat.reduceMul, Nat.reduceSub, Nat.reduceLT, Nat.reduceLeDiff, Nat.reduceEqDiff, decide_true, decide_false, fieldAddrF, undE, tupE, W15, allocE, hσ1, a0]
  by_cases hL : isL n f t
  · obtain ⟨a, ha⟩ : ∃ i : Nat, f = i := ⟨f.toNat, by unfold isL at hL; omega⟩
    obtain ⟨j, hj⟩ : ∃ j : Nat, t = j := ⟨t.toNat, by unfold isL at hL; omega⟩
    subst ha; subst hj
    have hi : a < n := by unfold isL at hL; omega
    have hj : j < n := by unfold isL at hL; omega
    refine CallK_use' (link35 h' hi hj (by unfold isL at hL; omega)) fun v σ' ⟨q1, q2⟩ => ?_
    subst q1; subst q2
    obtain ⟨cs, hR, hcs⟩ := h'.hR a hi
    have a1 := alive_of hR (by simp)
    simp only [↓RP, RS, Int.reduceBEq, Int.reduceBNe, Int.reduceLT, Int.reduceLE, Int.reduceAdd, Int.reduceSub, ↓reduceIte, Nat.reduceAdd, Nat.reduceMul, Nat.reduceSub, Nat.reduceLT, Nat.reduceLeDiff, Nat.reduceEqDiff, decide_true, decide_false, fieldAddrF, undE, tupE, W15, a1]
    refine CallK_use' (has40 i hR (hcs j hj).1 (h'.hQ a j hi hj)) fun v σ'' ⟨q1, q2⟩ => ?_
    subst q1; subst q2
    by_cases hh : 0 ≤ i ∧ i < (A a j).2.length
    · have d1 : decide (0 ≤ i ∧ i < (A a j).2.length) = true := by simpa using hh
      obtain ⟨k, rfl⟩ : ∃ k : Nat, i = k := ⟨i.toNat, by omega⟩
      have hk : k < (A a j).2.length := by omega
      simp only [↓RP, RS, Int.reduceBEq, Int.reduceBNe, Int.reduceLT, Int.reduceLE, Int.reduceAdd, Int.reduceSub, ↓reduceIte, Nat.reduceAdd, Nat.reduceMul, Nat.reduceSub, Nat.reduceLT, Nat.reduceLeDiff, Nat.reduceEqDiff, decide_true, decide_false, fieldAddrF, undE, tupE, W15, a1, d1]
      have hQ := h'.hQ a j hi hj
      cases hq : Q a j with
      | none => rw [hq] at hQ; simp only [ArrQ] at hQ; rw [hQ] at hk; simp at hk
      | some q =>
        rw [hq] at hQ
        have hc0 := (hcs j hj).1
        rw [hq] at hc0
        obtain ⟨m, fm, tm, em, lm, hmd, hmo⟩ := h'.msg a j hi hj (A a j).2[k] (by simp)
        have hmk : (A a j).2[k]? = some (.agg m) := by rw [List.getElem?_eq_getElem hk, hmd]
        refine CallK_use' (rem41 hR hc0 hQ (fun e => by have := h'.rR a hi; rw [← e, h'.rQ a j hi hj q hq] at this; cases this) hk (h.few a j hi hj) hmk hmo.len hmo.one) fun v σ2 ⟨k0, k1, k2, k4⟩ => ?_
        subst k0
        obtain ⟨Q', role', n1, n2⟩ := pop_ok h' hi hj hR hcs hk hq k1 k2 k4
        have hr0 : role σ.length = .other := Classical.byContradiction fun g => Nat.lt_irrefl _ (h.rlt _ g)
        have g2 := (n2.get g0 hr0).1
        have st := store_agg (P := Try.prog) (t := 42) (k := 0) (xs := m.map .d) g2 (one_map hmo.one) (by simp [hmo.len]; decide) (by simp [W15, hmo.len]) (by simp [W15])
        rw [setAt_all (by simp [hmo.len]; decide)] at st
        simp only [↓RP, RS, Int.reduceBEq, Int.reduceBNe, Int.reduceLT, Int.reduceLE, Int.reduceAdd, Int.reduceSub, ↓reduceIte, Nat.reduceAdd, Nat.reduceMul, Nat.reduceSub, Nat.reduceLT, Nat.reduceLeDiff, Nat.reduceEqDiff, decide_true, decide_false, fieldAddrF, undE, tupE, W15, st]
        have n3 := n1.keep (Keeps.set (S := fun o => o = σ.length) σ2 (.box (m.map .d)) rfl) (fun o ho => by rw [ho]; exact (n2.get g0 hr0).2)
        have hT : hasT n A (a : Int) (j : Int) (k : Int) := ⟨hL, by omega, by simpa using hk⟩
        have lm := load_all (P := Try.prog) (t := 42) (set_at g2 (.box (m.map .d))) (by simp [W15, hmo.len]) (by simp only [W15]) (by simp [W15])
        refine hK.fin (r := .tup [.agg (m.map .d), .d (.bool true)]) (by simp only [resF, resAll, resOne, e15, RS, lm]) (Fin.le (VLe_tup ⟨_, _, rfl, VLe.agg m, VLes.refl _⟩)) ⟨?_, Q', role', ?_, ?_⟩
        · simp [hT, msgT, List.getD_eq_getElem?_getD, hmk]
        · simpa [hT] using n3
        · refine ⟨(kp.trans n2).keeps.trans (Keeps.set (S := fun o => o = σ.length) _ _ rfl) (fun o ho e => by omega), (kp.trans n2).rest⟩
    · have d1 : decide (0 ≤ i ∧ i < (A a j).2.length) = false := by simpa using hh
      simp only [↓RP, RS, Int.reduceBEq, Int.reduceBNe, Int.reduceLT, Int.reduceLE, Int.reduceAdd, Int.reduceSub, ↓reduceIte, Nat.reduceAdd, Nat.reduceMul, Nat.reduceSub, Nat.reduceLT, Nat.reduceLeDiff, Nat.reduceEqDiff, decide_true, decide_false, fieldAddrF, undE, tupE, W15, a1, d1, bz, sz]
      exact no _ (by simp [hasT, hL]; omega) rfl rfl
  · refine CallK_use' (link35_no h' hL) fun v σ' ⟨q1, q2⟩ => ?_
    subst q1; subst q2
    simp only [↓RP, RS, Int.reduceBEq, Int.reduceBNe, Int.reduceLT, Int.reduceLE, Int.reduceAdd, Int.reduceSub, ↓reduceIte, Nat.reduceAdd, Nat.reduceMul, Nat.reduceSub, Nat.reduceLT, Nat.reduceLeDiff, Nat.reduceEqDiff, decide_true, decide_false, fieldAddrF, undE, tupE, W15, bz, sz]
    exact no _ (by simp [hasT, hL]) rfl rfl
end
end Go.Proofs.Ytadddaafajennaa.Am
