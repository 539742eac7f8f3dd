/- Walks: the methods of the network. -/
import Derived.Test.YtadddaafajennaaNf
set_option linter.unusedSimpArgs false
set_option linter.unusedVariables false
set_option maxRecDepth 10000
namespace Go.Proofs.Ytadddaafajennaa.Am
open Go Go.Proofs

theorem callA_le {P : Program} {f : FuncId} {xs ys : List V} {σ : List Ob} {K : V → List Ob → Prop} (h : VLes xs ys) (g : callA P f ys σ K) : callA P f xs σ K :=
  ⟨g.1, fun c vals hs hv => g.2 c vals hs (h.vrs hv)⟩

instance (n : Nat) (f t : Int) : Decidable (isL n f t) := by unfold isL; infer_instance

theorem ArrQ.keep {σ σ' : List Ob} {q : Option Nat} {ms : List D} (h : ArrQ σ q ms) (hk : ∀ p x, q = some p → σ[p]? = some x → σ'[p]? = some x) : ArrQ σ' q ms := by
  cases q with
  | none => exact h
  | some q => obtain ⟨j, h⟩ := h; exact ⟨j, hk q _ rfl h⟩

section
variable {σ : List Ob} {x n : Nat} {A : Links} {L : Nat} {R : Nat → Nat} {Q : Nat → Nat → Option Nat} {role : Nat → Role}

theorem NetAt.keep (h : NetAt σ x n A L R Q role) {S : Nat → Prop} {σ' : List Ob} (hk : Keeps S σ σ') (hs : ∀ o, S o → role o = .other) : NetAt σ' x n A L R Q role := by
  have keep : ∀ o y, σ[o]? = some y → role o ≠ .other → σ'[o]? = some y := fun o y ho hr => hk.get ho fun q => hr (hs o q)
  obtain ⟨cL, hL, hcL⟩ := h.hL
  refine ⟨h.n20, keep _ _ h.hx (by simp [h.rx]), ⟨cL, keep _ _ hL (by simp [h.rL]), hcL⟩, fun i hi => ?_, fun i j hi hj => ?_, fun o ho => Nat.lt_of_lt_of_le (h.rlt o ho) hk.1, h.rx, h.rL, h.rR, h.rQ, h.few, h.msg⟩
  · obtain ⟨cs, g1, g2⟩ := h.hR i hi
    exact ⟨cs, keep _ _ g1 (by simp [h.rR i hi]), g2⟩
  · exact (h.hQ i j hi hj).keep fun p y hp hy => keep p y hy (by simp [h.rQ i j hi hj p hp])

theorem NetAt.app (h : NetAt σ x n A L R Q role) (τ : List Ob) : NetAt (σ ++ τ) x n A L R Q role := h.keep (Keeps.app (fun _ => False) σ τ) fun _ q => q.elim
theorem Kept.app (role : Nat → Role) (σ τ : List Ob) : Kept role role σ (σ ++ τ) := ⟨Keeps.app _ _ _, fun _ _ h => h⟩

def okS (n : Nat) (A : Links) (f t : Int) : Prop := isL n f t ∧ (A f.toNat t.toNat).1 = false ∧ (A f.toNat t.toNat).2.length < 1024
instance (n : Nat) (A : Links) (f t : Int) : Decidable (okS n A f t) := by unfold okS; infer_instance
def putS (A : Links) (i j : Nat) (m : D) : Links := upd2 A i j ((A i j).1, (A i j).2 ++ [m])

theorem size24 (h : NetAt σ x n A L R Q role) (f t : Int) : callA Try.prog 24 [.ptr x 0 0, .d (.int .i64 f), .d (.int .i64 t)] σ (fun r σ' => r = .d (.int .i64 (if isL n f t then (A f.toNat t.toNat).2.length else 0 : Nat)) ∧ σ' = σ) := by
  refine w24.go fun K hK => ?_
  simp only [e24, c24, p24, Try.f24, codeOf, comp, opsOf, stOf, cop, cstp, copAt, planFor, List.find?, List.find?_nil, Option.map_none, Option.getD_none, List.any_cons, List.any_nil, Stp.idx, Bool.or_false, Nat.reduceBEq, ↓RP, RS, Int.reduceBEq, Int.reduceBNe, Int.reduceLT, Int.reduceLE, Int.reduceAdd, Int.reduceSub, ↓reduceIte, Nat.reduceAdd, Nat.reduceMul, Nat.reduceSub, Nat.reduceLT, Nat.reduceLeDiff, Nat.reduceEqDiff, decide_true, decide_false, fieldAddrF, undE, tupE, W24]
  by_cases hL : isL n f t
  · obtain ⟨i, hi⟩ : ∃ i : Nat, f = i := ⟨f.toNat, by unfold isL at hL; omega⟩
    obtain ⟨j, hj⟩ : ∃ j : Nat, t = j := ⟨t.toNat, by unfold isL at hL; omega⟩
    subst hi; subst hj
    have hi : i < n := by unfold isL at hL; omega
    have hj : j < n := by unfold isL at hL; omega
    refine CallK_use' (link35 h hi hj (by unfold isL at hL; omega)) fun v σ' ⟨q1, q2⟩ => ?_
    subst q1; subst q2
    obtain ⟨cs, hR, hcs⟩ := h.hR i hi
    have a1 := alive_of hR (by simp)
    simp only [↓RP, RS, Int.reduceBEq, Int.reduceBNe, Int.reduceLT, Int.reduceLE, Int.reduceAdd, Int.reduceSub, ↓reduceIte, Nat.reduceAdd, Nat.reduceMul, Nat.reduceSub, Nat.reduceLT, Nat.reduceLeDiff, Nat.reduceEqDiff, decide_true, decide_false, fieldAddrF, undE, tupE, W24, a1]
    refine CallK_use' (size45 hR (hcs j hj).1 (h.hQ i j hi hj)) fun v σ'' ⟨q1, q2⟩ => ?_
    subst q1; subst q2
    simp only [↓RP, RS, Int.reduceBEq, Int.reduceBNe, Int.reduceLT, Int.reduceLE, Int.reduceAdd, Int.reduceSub, ↓reduceIte, Nat.reduceAdd, Nat.reduceMul, Nat.reduceSub, Nat.reduceLT, Nat.reduceLeDiff, Nat.reduceEqDiff, decide_true, decide_false, fieldAddrF, undE, tupE]
    exact hK.ret (by rfl) ⟨by simp [hL], by rfl⟩
  · refine CallK_use' (link35_no h hL) fun v σ' ⟨q1, q2⟩ => ?_
    subst q1; subst q2
    simp only [↓RP, RS, Int.reduceBEq, Int.reduceBNe, Int.reduceLT, Int.reduceLE, Int.reduceAdd, Int.reduceSub, ↓reduceIte, Nat.reduceAdd, Nat.reduceMul, Nat.reduceSub, Nat.reduceLT, Nat.reduceLeDiff, Nat.reduceEqDiff, decide_true, decide_false, fieldAddrF, undE, tupE, W24]
    exact hK.ret (by rfl) ⟨by simp [hL], by rfl⟩

theorem off26 (h : NetAt σ x n A L R Q role) (f t : Int) : callA Try.prog 26 [.ptr x 0 0, .d (.int .i64 f), .d (.int .i64 t)] σ (fun r σ' => r = .d (.bool (if isL n f t then (A f.toNat t.toNat).1 else false)) ∧ σ' = σ) := by
  refine w26.go fun K hK => ?_
  simp only [e26, c26, p26, Try.f26, codeOf, comp, opsOf, stOf, cop, cstp, copAt, planFor, List.find?, List.find?_nil, Option.map_none, Option.getD_none, List.any_cons, List.any_nil, Stp.idx, Bool.or_false, Nat.reduceBEq, ↓RP, RS, Int.reduceBEq, Int.reduceBNe, Int.reduceLT, Int.reduceLE, Int.reduceAdd, Int.reduceSub, ↓reduceIte, Nat.reduceAdd, Nat.reduceMul, Nat.reduceSub, Nat.reduceLT, Nat.reduceLeDiff, Nat.reduceEqDiff, decide_true, decide_false, fieldAddrF, undE, tupE, W26]
  by_cases hL : isL n f t
  · obtain ⟨i, hi⟩ : ∃ i : Nat, f = i := ⟨f.toNat, by unfold isL at hL; omega⟩
    obtain ⟨j, hj⟩ : ∃ j : Nat, t = j := ⟨t.toNat, by unfold isL at hL; omega⟩
    subst hi; subst hj
    have hi : i < n := by unfold isL at hL; omega
    have hj : j < n := by unfold isL at hL; omega
    refine CallK_use' (link35 h hi hj (by unfold isL at hL; omega)) fun v σ' ⟨q1, q2⟩ => ?_
    subst q1; subst q2
    obtain ⟨cs, hR, hcs⟩ := h.hR i hi
    have a1 := alive_of hR (by simp)
    have l1 := load_box (P := Try.prog) (t := 4) hR (hcs j hj).2 (by simp only [W26]) (by simp only [W26])
    simp only [↓RP, RS, Int.reduceBEq, Int.reduceBNe, Int.reduceLT, Int.reduceLE, Int.reduceAdd, Int.reduceSub, ↓reduceIte, Nat.reduceAdd, Nat.reduceMul, Nat.reduceSub, Nat.reduceLT, Nat.reduceLeDiff, Nat.reduceEqDiff, decide_true, decide_false, fieldAddrF, undE, tupE, W26, a1, l1]
    exact hK.ret (by rfl) ⟨by simp [hL], by rfl⟩
  · refine CallK_use' (link35_no h hL) fun v σ' ⟨q1, q2⟩ => ?_
    subst q1; subst q2
    simp only [↓RP, RS, Int.reduceBEq, Int.reduceBNe, Int.reduceLT, Int.reduceLE, Int.reduceAdd, Int.reduceSub, ↓reduceIte, Nat.reduceAdd, Nat.reduceMul, Nat.reduceSub, Nat.reduceLT, Nat.reduceLeDiff, Nat.reduceEqDiff, decide_true, decide_false, fieldAddrF, undE, tupE, W26]
    exact hK.ret (by rfl) ⟨by simp [hL], by rfl⟩

theorem cut21 (h : NetAt σ x n A L R Q role) (f t : Int) (b : Bool) : callA Try.prog 21 [.ptr x 0 0, .d (.int .i64 f), .d (.int .i64 t), .d (.bool b)] σ (fun r σ' => r = .d (.bool (decide (isL n f t))) ∧ ∃ Q' role', NetAt σ' x n (if isL n f t then upd2 A f.toNat t.toNat (b, (A f.toNat t.toNat).2) else A) L R Q' role' ∧ Kept role role' σ σ') := by
  refine w21.go fun K hK => ?_
  simp only [e21, c21, p21, Try.f21, codeOf, comp, opsOf, stOf, cop, cstp, copAt, planFor, List.find?, List.find?_nil, Option.map_none, Option.getD_none, List.any_cons, List.any_nil, Stp.idx, Bool.or_false, Nat.reduceBEq, ↓RP, RS, Int.reduceBEq, Int.reduceBNe, Int.reduceLT, Int.reduceLE, Int.reduceAdd, Int.reduceSub, ↓reduceIte, Nat.reduceAdd, Nat.reduceMul, Nat.reduceSub, Nat.reduceLT, Nat.reduceLeDiff, Nat.reduceEqDiff, decide_true, decide_false, fieldAddrF, undE, tupE, W21]
  by_cases hL : isL n f t
  · simp only [hL, if_true, decide_true] at hK
    obtain ⟨i, hi⟩ : ∃ i : Nat, f = i := ⟨f.toNat, by unfold isL at hL; omega⟩
    obtain ⟨j, hj⟩ : ∃ j : Nat, t = j := ⟨t.toNat, by unfold isL at hL; omega⟩
    subst hi; subst hj
    have hi : i < n := by unfold isL at hL; omega
    have hj : j < n := by unfold isL at hL; omega
    refine CallK_use' (link35 h hi hj (by unfold isL at hL; omega)) fun v σ' ⟨q1, q2⟩ => ?_
    subst q1; subst q2
    obtain ⟨cs, hR, hcs⟩ := h.hR i hi
    have a1 := alive_of hR (by simp)
    obtain ⟨hk, hke⟩ := List.getElem?_eq_some_iff.1 (hcs j hj).2
    have st := store_box (P := Try.prog) (t := 4) (k := j * 2 + 1) (x := .d (.bool b)) hR rfl hk (by simp only [W21])
    simp only [↓RP, RS, Int.reduceBEq, Int.reduceBNe, Int.reduceLT, Int.reduceLE, Int.reduceAdd, Int.reduceSub, ↓reduceIte, Nat.reduceAdd, Nat.reduceMul, Nat.reduceSub, Nat.reduceLT, Nat.reduceLeDiff, Nat.reduceEqDiff, decide_true, decide_false, fieldAddrF, undE, tupE, W21, a1, st]
    refine hK.ret (by rfl) ⟨by rfl, ?_⟩
    simp only [Int.toNat_natCast]
    refine h.step hi hj hR (cs' := cs.set (j * 2 + 1) (.d (.bool b))) (set_at hR _) (q' := Q i j) ?_ ?_ ?_ ?_ (Keeps.set _ _ (.inl rfl)) (fun q hq => .inl hq) (h.few i j hi hj) (h.msg i j hi hj)
    · rw [List.getElem?_set_ne (by omega)]; exact (hcs j hj).1
    · rw [List.getElem?_set_self hk]
    · intro k _ hk'; rw [List.getElem?_set_ne (fun e => hk' e.symm)]
    · exact (h.hQ i j hi hj).keep fun p y hp hy => set_get hy (fun e => by have := h.rR i hi; rw [e, h.rQ i j hi hj p hp] at this; cases this) _
  · simp only [hL, if_false, decide_false] at hK
    refine CallK_use' (link35_no h hL) fun v σ' ⟨q1, q2⟩ => ?_
    subst q1; subst q2
    simp only [↓RP, RS, Int.reduceBEq, Int.reduceBNe, Int.reduceLT, Int.reduceLE, Int.reduceAdd, Int.reduceSub, ↓reduceIte, Nat.reduceAdd, Nat.reduceMul, Nat.reduceSub, Nat.reduceLT, Nat.reduceLeDiff, Nat.reduceEqDiff, decide_true, decide_false, fieldAddrF, undE, tupE, W21]
    exact hK.ret (by rfl) ⟨by rfl, Q, role, h, Kept.refl _ _⟩
end
end Go.Proofs.Ytadddaafajennaa.Am
