/- Walks: a message is added to a queue, and removed. -/
import Derived.Test.YtadddaafajennaaNd
set_option linter.unusedSimpArgs false
set_option linter.unusedVariables false
set_option maxRecDepth 10000
namespace Go.Proofs.Ytadddaafajennaa.Am
open Go Go.Proofs

structure Kept (role role' : Nat → Role) (σ σ' : List Ob) : Prop where
  keeps : Keeps (fun o => role o ≠ .other) σ σ'
  rest : ∀ o, o < σ.length → role o = .other → role' o = .other

theorem Kept.refl (role : Nat → Role) (σ : List Ob) : Kept role role σ σ := ⟨Keeps.refl _ _, fun _ _ h => h⟩
theorem Kept.trans {r r' r'' : Nat → Role} {σ σ' σ'' : List Ob} (h : Kept r r' σ σ') (g : Kept r' r'' σ' σ'') : Kept r r'' σ σ'' :=
  ⟨h.keeps.trans g.keeps fun o ho hs q => hs (h.rest o ho q), fun o ho q => g.rest o (Nat.lt_of_lt_of_le ho h.keeps.1) (h.rest o ho q)⟩
theorem Kept.get {r r' : Nat → Role} {σ σ' : List Ob} (h : Kept r r' σ σ') {o : Nat} {x : Ob} (ho : σ[o]? = some x) (hr : r o = .other) : σ'[o]? = some x ∧ r' o = .other :=
  ⟨h.keeps.get ho (by simp [hr]), h.rest o (lt_of_get ho) hr⟩

def rol (role : Nat → Role) (i j : Nat) (old new : Option Nat) : Nat → Role := fun o => if new = some o then .queue i j else if old = some o then .other else role o

theorem ArrQ.lt {σ : List Ob} {q : Nat} {ms : List D} (h : ArrQ σ (some q) ms) : q < σ.length := by
  obtain ⟨_, h⟩ := h
  exact lt_of_get h

theorem NetAt.step {σ σ' : List Ob} {x n : Nat} {A : Links} {L : Nat} {R : Nat → Nat} {Q : Nat → Nat → Option Nat} {role : Nat → Role} (h : NetAt σ x n A L R Q role) {i j : Nat} (hi : i < n) (hj : j < n) {cs cs' : List V} (hc : σ[R i]? = some (.box cs)) (hc' : σ'[R i]? = some (.box cs')) {a' : Bool × List D} {q' : Option Nat}
    (e1 : cs'[j * 2]? = some (cellQ q' a'.2.length)) (e2 : cs'[j * 2 + 1]? = some (.d (.bool a'.1))) (e3 : ∀ k, k ≠ j * 2 → k ≠ j * 2 + 1 → cs'[k]? = cs[k]?) (hq : ArrQ σ' q' a'.2) (hk : Keeps (fun o => o = R i ∨ Q i j = some o) σ σ') (hnew : ∀ q, q' = some q → Q i j = some q ∨ σ.length ≤ q) (few : a'.2.length ≤ 1024) (msg : ∀ m ∈ a'.2, MsgD m) :
    ∃ Q' role', NetAt σ' x n (upd2 A i j a') L R Q' role' ∧ Kept role role' σ σ' := by
  have rsame : ∀ o, o < σ.length → role o ≠ .queue i j → rol role i j (Q i j) q' o = role o := by
    intro o ho hr
    unfold rol
    by_cases c1 : q' = some o
    · rcases hnew o c1 with g | g
      · exact (hr (h.rQ i j hi hj o g)).elim
      · omega
    · by_cases c2 : Q i j = some o
      · exact (hr (h.rQ i j hi hj o c2)).elim
      · simp [c1, c2]
  have keep : ∀ o x, σ[o]? = some x → (∀ i', role o ≠ .row i' ∨ i' ≠ i) → role o ≠ .queue i j → σ'[o]? = some x := by
    intro o x ho h1 h2
    refine hk.get ho ?_
    rintro (rfl | g)
    · rcases h1 i with g | g
      · exact g (h.rR i hi)
      · exact g rfl
    · exact h2 (h.rQ i j hi hj o g)
  obtain ⟨cL, hL, hcL⟩ := h.hL
  refine ⟨fun i' j' => if i' = i ∧ j' = j then q' else Q i' j', rol role i j (Q i j) q', ⟨h.n20, keep x _ h.hx (by simp [h.rx]) (by simp [h.rx]), ⟨cL, keep L _ hL (by simp [h.rL]) (by simp [h.rL]), hcL⟩, ?_, ?_, ?_, ?_, ?_, ?_, ?_, ?_, ?_⟩, ⟨hk.mono ?_, ?_⟩⟩
  · intro i' hi'
    by_cases c : i' = i
    · subst c
      obtain ⟨cs0, g1, g2⟩ := h.hR i' hi'
      rw [hc] at g1; cases g1
      refine ⟨cs', hc', fun j' hj' => ?_⟩
      by_cases c' : j' = j
      · subst c'
        simp only [upd2, and_self, if_true]
        exact ⟨e1, e2⟩
      · simp only [upd2, c', and_false, if_false]
        rw [e3 _ (by omega) (by omega), e3 _ (by omega) (by omega)]
        exact g2 j' hj'
    · obtain ⟨cs0, g1, g2⟩ := h.hR i' hi'
      refine ⟨cs0, keep _ _ g1 (fun k => ?_) (by rw [h.rR i' hi']; simp), fun j' hj' => ?_⟩
      · rw [h.rR i' hi']
        by_cases ck : k = i
        · left; simp; omega
        · exact .inr ck
      · simp only [upd2, c, false_and, if_false]
        exact g2 j' hj'
  · intro i' j' hi' hj'
    by_cases c : i' = i ∧ j' = j
    · obtain ⟨rfl, rfl⟩ := c
      simp only [upd2, and_self, if_true]
      exact hq
    · simp only [upd2, c, if_false]
      have g := h.hQ i' j' hi' hj'
      cases hQ' : Q i' j' with
      | none => rw [hQ'] at g; exact g
      | some q =>
        rw [hQ'] at g
        obtain ⟨junk, g⟩ := g
        have hr := h.rQ i' j' hi' hj' q hQ'
        refine ⟨junk, keep q _ g (by simp [hr]) ?_⟩
        rw [hr]; intro e; cases e; exact c ⟨rfl, rfl⟩
  · intro o ho
    unfold rol at ho
    by_cases c1 : q' = some o
    · rw [c1] at hq; exact hq.lt
    · rw [if_neg c1] at ho
      by_cases c2 : Q i j = some o
      · rw [if_pos c2] at ho; exact (ho rfl).elim
      · rw [if_neg c2] at ho; exact Nat.lt_of_lt_of_le (h.rlt o ho) hk.1
  · rw [rsame x (lt_of_get h.hx) (by simp [h.rx]), h.rx]
  · rw [rsame L (lt_of_get hL) (by simp [h.rL]), h.rL]
  · intro i' hi'
    obtain ⟨cs0, g1, _⟩ := h.hR i' hi'
    rw [rsame _ (lt_of_get g1) (by simp [h.rR i' hi']), h.rR i' hi']
  · intro i' j' hi' hj' q hq'
    by_cases c : i' = i ∧ j' = j
    · obtain ⟨rfl, rfl⟩ := c
      simp only [and_self, if_true] at hq'
      simp [rol, hq']
    · simp only [c, if_false] at hq'
      have hr := h.rQ i' j' hi' hj' q hq'
      have g := h.hQ i' j' hi' hj'
      rw [hq'] at g
      rw [rsame q g.lt (by rw [hr]; intro e; cases e; exact c ⟨rfl, rfl⟩), hr]
  · intro i' j' hi' hj'
    by_cases c : i' = i ∧ j' = j
    · simp only [upd2, c, and_self, if_true]; exact few
    · simp only [upd2, c, if_false]; exact h.few i' j' hi' hj'
  · intro i' j' hi' hj'
    by_cases c : i' = i ∧ j' = j
    · simp only [upd2, c, and_self, if_true]; exact msg
    · simp only [upd2, c, if_false]; exact h.msg i' j' hi' hj'
  · rintro o (rfl | g)
    · rw [h.rR i hi]; simp
    · rw [h.rQ i j hi hj o g]; simp
  · intro o ho hr
    rw [rsame o ho (by simp [hr]), hr]

section
variable {σ : List Ob} {o k : Nat} {cs : List V} {q : Option Nat} {ms : List D}

theorem storeBack_arr {τ : List Ob} {p sz : Nat} {mk : Bool} {es : List D} : storeBack τ [p] [.arr sz mk es] = τ.set p (.arr sz mk es) := by
  simp [storeBack, backInto, embO, renO]

theorem add37 (hl : ms.length ≤ 1024) (h1 : σ[o]? = some (.box cs)) (h2 : cs[k]? = some (cellQ q ms.length)) (h3 : ArrQ σ q ms) (hq : ∀ p, q = some p → p ≠ o) {m : List D} {f t : Int} {ents lk : List D} (hm : MsgOk m f t ents lk) :
    callA Try.prog 37 [.ptr o 0 k, .agg (m.map .d)] σ (fun r σ' => ∃ q', σ'[o]? = some (.box (cs.set k (cellQ q' (ms.length + 1)))) ∧ ArrQ σ' q' (ms ++ [.agg m]) ∧ (∀ p, q' = some p → q = some p ∨ σ.length ≤ p) ∧ Keeps (fun p => p = o ∨ q = some p) σ σ') := by
  refine w37.go fun K hK => ?_
  have hk : k < cs.length := (List.getElem?_eq_some_iff.1 h2).1
  have ho := lt_of_get h1
  generalize hσ1 : σ ++ [Ob.box (m.map .d)] = σ1
  have g1 : σ1[o]? = some (.box cs) := by rw [← hσ1]; exact app_get h1 _
  have g2 : σ1[σ.length]? = some (.box (m.map .d)) := by rw [← hσ1]; simp
  have gl : σ1.length = σ.length + 1 := by rw [← hσ1]; simp
  have g3 : ∀ p x, σ[p]? = some x → σ1[p]? = some x := fun p x hp => by rw [← hσ1]; exact app_get hp _
  have a1 := alive_of g1 (by simp)
  have l1 := load_box (P := Try.prog) (t := 68) g1 h2 (by simp only [W37]) (by simp only [W37])
  have l2 := load_all (P := Try.prog) (t := 42) g2 (by simp [hm.len, W37]) (by simp only [W37]) (by simp [W37])
  simp only [e37, c37, p37, Try.f37, codeOf, comp, opsOf, stOf, cop, cstp, copAt, planFor, List.find?, List.find?_nil, Option.map_none, Option.getD_none, List.any_cons, List.any_nil, Stp.idx, Bool.or_false, Nat.reduceBEq, ↓RP, RS, Int.reduceBEq, Int.reduceBNe, Int.reduceLT, Int.reduceLE, Int.reduceAdd, Int.reduceSub, ↓reduceIte, Nat.reduceAdd, Nat.reduceMul, Nat.reduceSub, Nat.reduceLT, Nat.reduceLeDiff, Nat.reduceEqDiff, decide_true, decide_false, fieldAddrF, undE, tupE, W37, boxE, cellsV, hσ1, a1, l1, l2, RS]
  refine CallK_use (callA_val (copy46 hm) _ (by simp only [embVs, renVs, renV, renVs_d])) fun v σ' ⟨q1, q2⟩ => ?_
  subst q1; subst q2
  have hf : flatOk (.agg m) 34 = true := by simp [flatOk, D.csz, D.cells, hm.len, hm.one]
  have b1 : ∀ s, get s (.tmp 10) = .d (.agg m) → buildSliceD Try.prog 68 1 σ' s [(0, .tmp 10)] = some (.d (.lst 34 [.agg m])) := fun s hs => by
    simp only [buildSliceD, W37, inOrder, toDs, toD, RS, hf, if_true, Nat.reduceMul, Nat.reduceLeDiff, Nat.reduceAdd, hs]
  have c1 : chkC Try.prog [(⟨some 4, .move (.tmp 0), none⟩, false), (⟨some 5, .move (.tmp 0), none⟩, false), (⟨some 6, .nilCheck (.tmp 5), none⟩, false), (⟨some 7, .fieldAddr 75 (.tmp 6) 0, none⟩, false), (⟨some 8, .load 68 (.tmp 7), none⟩, false)]
      [V.ptr o 0 k, V.agg (List.map V.d m), .undef, V.ptr σ.length 0 0, V.ptr o 0 k, V.ptr o 0 k, V.ptr o 0 k, V.ptr o 0 k, cellQ q ms.length, V.agg (List.map V.d m), V.d (D.agg m), .undef, .undef, .undef, .undef] σ' := by
    simp only [chkC, wantC, ↓RP, RS, Int.reduceBEq, Int.reduceBNe, Int.reduceLT, Int.reduceLE, Int.reduceAdd, Int.reduceSub, ↓reduceIte, Nat.reduceAdd, Nat.reduceMul, Nat.reduceSub, Nat.reduceLT, Nat.reduceLeDiff, Nat.reduceEqDiff, decide_true, decide_false, fieldAddrF, undE, tupE, W37, a1, l1]
  refine ⟨c1, ?_⟩
  cases q with
  | none =>
    cases h3
    have ap := app_nil (P := Try.prog) (t := 68) (e := 42) (tx := 68) (σ := σ') (src := .d (.lst 34 [.agg m])) (ds := [.agg m]) (by simp only [W37]) (by simp only [W37]) (src_lst (by simp only [W37]) (by simp only [W37])) (b := 344) (by simp only [W37]) (by simp) (by decide)
    rw [show szOf Try.prog 42 = 34 by simp only [W37]] at ap
    have g4 : ∀ τ, (σ' ++ τ)[o]? = some (.box cs) := fun τ => app_get g1 τ
    have a3 : ∀ τ, alive (σ' ++ τ) o = true := fun τ => alive_of (g4 τ) (by simp)
    have a4 : alive (σ' ++ [Ob.arr 34 false [D.agg m]]) σ'.length = true := alive_of (x := .arr 34 false [D.agg m]) (by simp) (by simp)
    have st := store_box (P := Try.prog) (t := 68) (k := k) (x := .sl σ'.length 0 1) (g4 [Ob.arr 34 false [D.agg m]]) (one_sl a4) hk (by simp only [W37])
    simp only [↓RP, RS, Int.reduceBEq, Int.reduceBNe, Int.reduceLT, Int.reduceLE, Int.reduceAdd, Int.reduceSub, ↓reduceIte, Nat.reduceAdd, Nat.reduceMul, Nat.reduceSub, Nat.reduceLT, Nat.reduceLeDiff, Nat.reduceEqDiff, decide_true, decide_false, fieldAddrF, undE, tupE, W37, b1, cellQ, List.toList_toArray, ap, chkC, wantC, a3, st]
    refine hK.nrm (by rfl) ⟨some σ'.length, ?_, ⟨[], ?_⟩, ?_, ?_⟩
    · rw [List.getElem?_set_self (by simp; omega)]; rfl
    · rw [List.getElem?_set_ne (by omega)]; simp
    · intro p hp; cases hp; right; omega
    · subst hσ1
      exact ((Keeps.app _ σ [.box (m.map .d)]).trans (Keeps.app _ _ _) (fun _ _ h => h)).trans (Keeps.set _ _ (.inl rfl)) (fun _ _ h => h)
  | some q =>
    obtain ⟨junk, h3⟩ := h3
    have h3' := g3 q _ h3
    have a2 := alive_of h3' (by simp)
    have qo := hq q rfl
    have ql := lt_of_get h3
    cases junk with
    | nil =>
      rw [List.append_nil] at h3 h3'
      have ap := app_new (P := Try.prog) (t := 68) (e := 42) (tx := 68) (σ := σ') (off := 0) (len := ms.length) (src := .d (.lst 34 [.agg m])) (ds := [.agg m]) h3' (by simp only [W37]) (by simp only [W37]) (by simp only [W37]) (src_lst (by simp only [W37]) (by simp only [W37])) (by simp) (by simp) (b := 344) (by simp only [W37]) (by simp; omega) (by decide)
      rw [List.drop_zero, List.take_length] at ap
      have g4 : (σ'.set q .dead ++ [Ob.arr 34 false (ms ++ [D.agg m])])[o]? = some (.box cs) := app_get (set_get g1 (fun e => qo e) _) _
      have a3 := alive_of g4 (by simp)
      have a4 : alive (σ'.set q .dead ++ [Ob.arr 34 false (ms ++ [D.agg m])]) σ'.length = true := alive_of (x := .arr 34 false (ms ++ [D.agg m])) (by simp) (by simp)
      have st := store_box (P := Try.prog) (t := 68) (k := k) (x := .sl σ'.length 0 (ms.length + 1)) g4 (one_sl a4) hk (by simp only [W37])
      simp only [↓RP, RS, Int.reduceBEq, Int.reduceBNe, Int.reduceLT, Int.reduceLE, Int.reduceAdd, Int.reduceSub, ↓reduceIte, Nat.reduceAdd, Nat.reduceMul, Nat.reduceSub, Nat.reduceLT, Nat.reduceLeDiff, Nat.reduceEqDiff, decide_true, decide_false, fieldAddrF, undE, tupE, W37, b1, cellQ, List.toList_toArray, ap, chkC, wantC, a3, st]
      refine hK.nrm (by rfl) ⟨some σ'.length, ?_, ⟨[], ?_⟩, ?_, ?_⟩
      · rw [List.getElem?_set_self (by simp; omega)]; rfl
      · rw [List.getElem?_set_ne (by omega)]; simp
      · intro p hp; cases hp; right; omega
      · subst hσ1
        exact (((Keeps.app _ σ [.box (m.map .d)]).trans (Keeps.set (S := fun p => p = o ∨ some q = some p) _ _ (.inr rfl)) (fun _ _ h => h)).trans (Keeps.app _ _ _) (fun _ _ h => h)).trans (Keeps.set _ _ (.inl rfl)) (fun _ _ h => h)
    | cons y junk =>
      have ap := app_in (P := Try.prog) (t := 68) (e := 42) (tx := 68) (σ := σ') (off := 0) (len := ms.length) (src := .d (.lst 34 [.agg m])) (ds := [.agg m]) h3' (by simp only [W37]) (by simp only [W37]) (by simp only [W37]) (src_lst (by simp only [W37]) (by simp only [W37])) (by simp)
      rw [Nat.zero_add, over_app] at ap
      have ap : appE Try.prog 68 68 σ' (.sl q 0 ms.length) (.d (.lst 34 [.agg m])) = some (.sl q 0 (ms.length + 1), σ'.set q (.arr 34 false (ms ++ D.agg m :: junk))) := ap
      have g4 : (σ'.set q (.arr 34 false (ms ++ D.agg m :: junk)))[o]? = some (.box cs) := set_get g1 (fun e => qo e) _
      have a3 := alive_of g4 (by simp)
      have a4 : alive (σ'.set q (.arr 34 false (ms ++ D.agg m :: junk))) q = true := alive_of (set_at h3' _) (by simp)
      have st := store_box (P := Try.prog) (t := 68) (k := k) (x := .sl q 0 (ms.length + 1)) g4 (one_sl a4) hk (by simp only [W37])
      simp only [↓RP, RS, Int.reduceBEq, Int.reduceBNe, Int.reduceLT, Int.reduceLE, Int.reduceAdd, Int.reduceSub, ↓reduceIte, Nat.reduceAdd, Nat.reduceMul, Nat.reduceSub, Nat.reduceLT, Nat.reduceLeDiff, Nat.reduceEqDiff, decide_true, decide_false, fieldAddrF, undE, tupE, W37, b1, cellQ, List.toList_toArray, ap, chkC, wantC, a3, st]
      refine hK.nrm (by rfl) ⟨some q, ?_, ⟨junk, ?_⟩, ?_, ?_⟩
      · rw [List.getElem?_set_self (by simp; omega)]; rfl
      · rw [List.getElem?_set_ne (fun e => qo e.symm), set_at h3']; simp
      · intro p hp; left; exact hp
      · subst hσ1
        exact ((Keeps.app _ σ [.box (m.map .d)]).trans (Keeps.set (S := fun p => p = o ∨ some q = some p) _ _ (.inr rfl)) (fun _ _ h => h)).trans (Keeps.set _ _ (.inl rfl)) (fun _ _ h => h)
end
end Go.Proofs.Ytadddaafajennaa.Am
