/- The reference over texts: walks of Remove, Set, Find. -/
import Derived.Test.YtjidelngljpbdaaIs
set_option linter.unusedSimpArgs false
set_option linter.unusedVariables false
set_option maxRecDepth 10000
set_option maxHeartbeats 2000000
namespace Go.Proofs.Ytjidelngljpbdaa.Am
open Go Go.Proofs

theorem Keeps.grow {σ σ1 σ2 : List Ob} {q1 : Option Nat} (h1 : Keeps (fun _ => False) σ σ1) (h2 : Keeps (fun o => q1 = some o) σ1 σ2) (h3 : ∀ p, q1 = some p → σ.length ≤ p) : Keeps (fun _ => False) σ σ2 := by
  refine ⟨Nat.le_trans h1.1 h2.1, fun o ho hn => ?_⟩
  rw [h2.2 o (Nat.lt_of_lt_of_le ho h1.1) (fun e => by have := h3 _ e; omega), h1.2 o ho hn]

def dropT (id : W) (l : List TxI) : List TxI := l.filter fun e => !(e.1 == id)
theorem dropT_len (id : W) (l : List TxI) : (dropT id l).length ≤ l.length := List.length_filter_le _ _

theorem rem18 {σ : List Ob} {v : V} {l : List TxI} (h : TxAt σ v l) (hl : l.length ≤ 1000000) (id : W) : callA Try.prog 18 [v, .d (.str id)] σ fun r σ' => TxAt σ' r (dropT id l) ∧ Keeps (fun _ => False) σ σ' ∧ (∀ q o n, r = .sl q o n → σ.length ≤ q) := by
  refine w18.go fun K hK => ?_
  simp only [e18, c18, p18, Try.f18, codeOf, comp, opsOf, stOf, cop, cstp, copAt, planFor, List.find?, List.find?_nil, Option.map_none, Option.getD_none, List.any_cons, List.any_nil, Stp.idx, Bool.or_false, Nat.reduceBEq, ↓RP, RS, Int.reduceBEq, Int.reduceBNe, Int.reduceLT, Int.reduceLE, Int.reduceAdd, Int.reduceSub, ↓reduceIte, Nat.reduceAdd, Nat.reduceMul, Nat.reduceSub, Nat.reduceLT, Nat.reduceLeDiff, Nat.reduceEqDiff, decide_true, decide_false, fieldAddrF, undE, tupE, W18]
  refine Loop_k [0, 1, 5, 6] (fun y : Nat × List Ob × Option Nat => fr 0 28 [(0, v), (1, .d (.str id)), (5, cellQ y.2.2 (dropT id (l.take y.1)).length), (6, .d (.int .i64 y.1))]) (fun y => y.2.1) (fun y => y.1 ≤ l.length ∧ Keeps (fun _ => False) σ y.2.1 ∧ ArrT y.2.1 y.2.2 (dropT id (l.take y.1)) ∧ (∀ p, y.2.2 = some p → σ.length ≤ p)) (fun y => l.length - y.1) (0, σ, none) (by kernel_rfl) rfl ⟨Nat.zero_le _, Keeps.refl _ _, rfl, by simp⟩ fun ⟨k, sk, q⟩ ⟨hk, hkp, hA, hq⟩ => ?_
  simp only at hk hkp hA hq ⊢
  have h' := h.keep hkp (fun _ _ _ _ h => h)
  have l1 := h'.len
  by_cases hlt : k < l.length
  · have e3 : decide ((k : Int) < (l.length : Int)) = true := decide_eq_true (by omega)
    have w1 : IntKind.i64.wrap ((k : Int) + 1) = ((k + 1 : Nat) : Int) := by rw [IntWalk.i64_in _ (by omega)]; rfl
    obtain ⟨e, ge⟩ : ∃ w, l[k]? = some w := ⟨_, List.getElem?_eq_getElem hlt⟩
    obtain ⟨q0, x1, a0, y1, y2, y3⟩ := h'.get ge
    have hdl := dropT_len id (l.take k)
    rw [List.length_take] at hdl
    by_cases he : e.1 = id
    · have z1 : (e.1 == id) = true := by simpa using he
      have hd : dropT id (l.take (k + 1)) = dropT id (l.take k) := by
        unfold dropT; rw [List.take_add_one, ge, List.filter_append]; simp [z1, he]
      simp only [fr, ↓RP, RS, Int.reduceBEq, Int.reduceBNe, Int.reduceLT, Int.reduceLE, Int.reduceAdd, Int.reduceSub, ↓reduceIte, Nat.reduceAdd, Nat.reduceMul, Nat.reduceSub, Nat.reduceLT, Nat.reduceLeDiff, Nat.reduceEqDiff, decide_true, decide_false, fieldAddrF, undE, tupE, W18, l1, e3, x1, a0, y1, strBin, z1, w1]
      exact seqK_n ⟨(k + 1, sk, q), ⟨hlt, hkp, by simp only [hd]; exact hA, hq⟩, by simp only; omega, by simp only [hd]; kernel_rfl, rfl⟩
    · have z1 : (e.1 == id) = false := by simpa using he
      have hd : dropT id (l.take (k + 1)) = dropT id (l.take k) ++ [e] := by
        unfold dropT; rw [List.take_add_one, ge, List.filter_append]; simp [z1, he]
      obtain ⟨p', σ1, p1, p2, p3, p4⟩ := app_tx (e := e) hA (by omega)
      have bs := fun (s' : List V) (hg : get s' (.tmp 24) = .d (txD e)) => build33 (σ := sk) (.inl hg)
      simp only [fr, ↓RP, RS, Int.reduceBEq, Int.reduceBNe, Int.reduceLT, Int.reduceLE, Int.reduceAdd, Int.reduceSub, ↓reduceIte, Nat.reduceAdd, Nat.reduceMul, Nat.reduceSub, Nat.reduceLT, Nat.reduceLeDiff, Nat.reduceEqDiff, decide_true, decide_false, fieldAddrF, undE, tupE, W18, l1, e3, x1, a0, y1, y3, strBin, z1, bs, List.toList_toArray, p1, w1]
      exact seqK_n ⟨(k + 1, σ1, some p'), ⟨hlt, hkp.grow p4 hq, by simp only [hd]; exact p2, fun p e => by cases e; have := hkp.1; omega⟩, by simp only; omega, by simp only [hd, List.length_append, List.length_cons, List.length_nil]; kernel_rfl, rfl⟩
  · have e3 : decide ((k : Int) < (l.length : Int)) = false := decide_eq_false (by omega)
    rw [List.take_of_length_le (by omega)] at hA
    simp only [fr, ↓RP, RS, Int.reduceBEq, Int.reduceBNe, Int.reduceLT, Int.reduceLE, Int.reduceAdd, Int.reduceSub, ↓reduceIte, Nat.reduceAdd, Nat.reduceMul, Nat.reduceSub, Nat.reduceLT, Nat.reduceLeDiff, Nat.reduceEqDiff, decide_true, decide_false, fieldAddrF, undE, tupE, W18, l1, e3]
    rw [List.take_of_length_le (by omega)]
    refine hK.ret (by rfl) ⟨hA.txs, hkp, fun q' o n e => ?_⟩
    cases q with
    | none => simp only [cellQ] at e; cases e
    | some p => simp only [cellQ] at e; cases e; exact hq _ rfl

theorem rset16 {σ : List Ob} {v : V} {l : List TxI} (h : TxAt σ v l) (hl : l.length ≤ 1000000) (id tx : W) : callA Try.prog 16 [v, .d (.str id), .d (.str tx)] σ fun r σ' => TxAt σ' r (dropT id l ++ [(id, tx)]) ∧ Keeps (fun _ => False) σ σ' ∧ (∀ q o n, r = .sl q o n → σ.length ≤ q) := by
  refine w16.go fun K hK => ?_
  simp only [e16, c16, p16, Try.f16, codeOf, comp, opsOf, stOf, cop, cstp, copAt, planFor, List.find?, List.find?_nil, Option.map_none, Option.getD_none, List.any_cons, List.any_nil, Stp.idx, Bool.or_false, Nat.reduceBEq, ↓RP, RS, Int.reduceBEq, Int.reduceBNe, Int.reduceLT, Int.reduceLE, Int.reduceAdd, Int.reduceSub, ↓reduceIte, Nat.reduceAdd, Nat.reduceMul, Nat.reduceSub, Nat.reduceLT, Nat.reduceLeDiff, Nat.reduceEqDiff, decide_true, decide_false, fieldAddrF, undE, tupE, W16]
  refine CallK_use' (rem18 h hl id) fun v1 s1 ⟨h1, k1, n1⟩ => ?_
  have bf : ∀ (σ : List Ob) (s : List V), get s (.tmp 10) = .d (.str id) → get s (.tmp 11) = .d (.str tx) → buildF Try.prog 62 σ s [(0, .tmp 10), (1, .tmp 11)] = some (.agg [.d (.str id), .d (.str tx)]) := fun σ s g1 g2 => by
    simp only [buildF, W16, fillV, g1, g2, cellsV, one, live, one1]
    rfl
  have bs := fun (s' : List V) (hg : get s' (.tmp 12) = .agg [.d (.str id), .d (.str tx)]) => build33 (σ := s1) (e := (id, tx)) (.inr hg)
  have hdl := dropT_len id l
  obtain ⟨q, rfl, hq⟩ := h1.arr
  obtain ⟨p', σ1, p1, p2, p3, p4⟩ := app_tx (e := (id, tx)) hq (by omega)
  have hq1 : ∀ p, q = some p → σ.length ≤ p := fun p e => by subst e; exact n1 _ _ _ rfl
  simp only [↓RP, RS, Int.reduceBEq, Int.reduceBNe, Int.reduceLT, Int.reduceLE, Int.reduceAdd, Int.reduceSub, ↓reduceIte, Nat.reduceAdd, Nat.reduceMul, Nat.reduceSub, Nat.reduceLT, Nat.reduceLeDiff, Nat.reduceEqDiff, decide_true, decide_false, fieldAddrF, undE, tupE, W16, bf, bs, List.toList_toArray, p1]
  refine hK.ret (by rfl) ⟨?_, k1.grow p4 hq1, fun q' o n e => by cases e; have := k1.1; omega⟩
  have := p2.txs
  simpa [cellQ] using this
end Go.Proofs.Ytjidelngljpbdaa.Am
