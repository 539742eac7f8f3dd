/- The reference: Cut; the same wherever the reference lies. -/
import Derived.Test.YtadddaafajennaaRf
set_option linter.unusedSimpArgs false
set_option linter.unusedVariables false
set_option maxRecDepth 10000
set_option maxHeartbeats 2000000
namespace Go.Proofs.Ytadddaafajennaa.Am
open Go Go.Proofs

def ArrK (σ : List Ob) (q : Option Nat) (ds : List D) : Prop := match q with | none => ds = [] | some q => ∃ mk, σ[q]? = some (.arr 1 mk ds)

theorem app_oneR {σ : List Ob} {q : Option Nat} {ds : List D} {d : D} (h : ArrK σ q ds) (hl : ds.length ≤ 1048576) {t e : TypeId} {b : Nat} (he : elemOfSlice Try.prog t = some e) (hk : elemOk Try.prog e = true) (hz : szOf Try.prog e = 1) (ht : isSliceT Try.prog t = true) (hbt : bytesT Try.prog e = b) (hb : b ≤ 64) :
    ∃ q' σ', appE Try.prog t t (σ ++ [.arr 1 false [d]]) (cellQ q ds.length) (.sl σ.length 0 1) = some (cellQ q' (ds.length + 1), σ') ∧ ArrK σ' q' (ds ++ [d]) ∧ (∀ p, q' = some p → q = some p ∨ σ.length ≤ p) ∧ Keeps (fun o => q = some o) σ σ' := by
  have g1 : (σ ++ [Ob.arr 1 false [d]])[σ.length]? = some (.arr 1 false [d]) := by simp
  have hs : srcD Try.prog e (σ ++ [Ob.arr 1 false [d]]) t (.sl σ.length 0 1) = some [d] := src_sl (P := Try.prog) (tx := t) (e := e) (off := 0) (len := 1) g1 ht hz (by simp)
  cases q with
  | none =>
    simp only [ArrK] at h; subst h
    have ap := app_nil (P := Try.prog) (t := t) (e := e) he hk hs (b := b) hbt (by simp; omega) (by omega)
    rw [hz] at ap
    refine ⟨some (σ.length + 1), σ ++ [Ob.arr 1 false [d]] ++ [Ob.arr 1 false [d]], by rw [List.length_nil, cellQ, ap]; simp [cellQ], ⟨false, ?_⟩, ?_, ?_⟩
    · rw [List.getElem?_append_right (by simp)]; simp
    · intro p e; cases e; right; simp
    · rw [List.append_assoc]; exact Keeps.app _ _ _
  | some q =>
    obtain ⟨mk, ho⟩ := h
    have ho' : (σ ++ [Ob.arr 1 false [d]])[q]? = some (.arr 1 mk ds) := app_get ho _
    obtain ⟨p, σ', a1, a2, a3, a4⟩ := app_any (P := Try.prog) (t := t) (tx := t) (e := e) ho' he hk hz hs (b := b) hbt (by simp; have : (ds.length + 1) * b ≤ 1048577 * 64 := Nat.mul_le_mul (by omega) hb; omega) (by omega)
    refine ⟨some p, σ', ?_, ⟨mk, a2⟩, ?_, ?_⟩
    · rw [cellQ, a1]; simp [cellQ]
    · intro p' e; cases e
      rcases a3 with rfl | a3
      · exact .inl rfl
      · right; simp at a3; omega
    · exact (Keeps.app (fun o => some q = some o) σ _).trans (a4.mono fun o e => by rw [e]) (fun _ _ h => h)

def keepC (f t : Int) (l : List (Int × Int)) : List (Int × Int) := l.filter fun c => !(c.1 == f && c.2 == t)
def cutR (f t : Int) (on : Bool) (l : List (Int × Int)) : List (Int × Int) := keepC f t l ++ (match on with | true => [(f, t)] | false => [])

theorem build_c22 {σ : List Ob} {s : List V} {x : Operand} {d : D} (hd : one1 d = true) (h : get s x = .d d) (ha : d ≠ .any) : buildSliceF Try.prog 69 1 σ s [(0, x)] = some (.sl σ.length 0 1, σ ++ [.arr 1 false [d]]) := by
  have e1 : d.csz = some 1 := by cases d <;> first | rfl | cases hd
  have e2 : d.cells = [d] := by cases d <;> first | rfl | cases hd
  have e3 : toD σ (.d d) = some d := by cases d <;> first | rfl | cases hd
  simp only [buildSliceF, W22, inOrder, toDs, h, e3, flatOk, e1, e2, List.all_cons, List.all_nil, hd, beq_self_eq_true, if_true, Option.map_some, List.length_cons, List.length_nil]
  rfl
theorem build_l22 {σ : List Ob} {s : List V} {x y : Operand} {f t : Int} (h : get s x = .d (.int .i64 f)) (h' : get s y = .d (.int .i64 t)) : buildSliceD Try.prog 55 2 σ s [(0, x), (1, y)] = some (.d (cutE (f, t))) := by
  simp only [buildSliceD, W22, inOrder, toDs, toD, h, h', flatOk, D.csz, D.cells, List.all_cons, List.all_nil, one1, beq_self_eq_true, if_true, Option.map_some, List.length_cons, List.length_nil]
  rfl

section
variable {n : Nat} {ls : List D} {cuts : List (Int × Int)}

theorem keepC_succ (f t : Int) {k : Nat} (hk : k < cuts.length) : keepC f t (cuts.take (k + 1)) = keepC f t (cuts.take k) ++ (if cuts[k].1 == f && cuts[k].2 == t then [] else [cuts[k]]) := by
  unfold keepC
  rw [List.take_succ_eq_append_getElem hk, List.filter_append]
  congr 1
  cases c : (cuts[k].1 == f && cuts[k].2 == t) <;> simp only [List.filter_cons, List.filter_nil, c, Bool.not_true, Bool.not_false, if_true, if_false, Bool.false_eq_true]

theorem cut22 (h : RefOk n ls cuts) (f t : Int) (on : Bool) : callA Try.prog 22 [.ptr 0 0 0, .d (.int .i64 f), .d (.int .i64 t), .d (.bool on)] [.box ((refL n ls cuts).map .d)] fun r σ' => ∃ ys, σ' = [.box (ys.map .d)] ∧
    (r = .d (.bool (decide (isL n f t))) ∧ ys = refL n ls (if isL n f t then cutR f t on cuts else cuts)) := by
  refine w22.go fun K hK => ?_
  have hfew := h.fewc
  obtain ⟨σ1, hσ1⟩ : ∃ σ1, σ1 = [Ob.box ((refL n ls cuts).map .d)] := ⟨_, rfl⟩
  have g0 : σ1[0]? = some (.box ((refL n ls cuts).map .d)) := by rw [hσ1]; rfl
  have hR := h.at g0
  rw [← hσ1]
  simp only [e22, c22, p22, Try.f22, codeOf, comp, opsOf, stOf, cop, cstp, copAt, planFor, List.find?, List.find?_nil, Option.map_none, Option.getD_none, List.any_cons, List.any_nil, Stp.idx, Bool.or_false, Nat.reduceBEq, ↓RP, RS, Int.reduceBEq, Int.reduceBNe, Int.reduceLT, Int.reduceLE, Int.reduceAdd, Int.reduceSub, ↓reduceIte, Nat.reduceAdd, Nat.reduceMul, Nat.reduceSub, Nat.reduceLT, Nat.reduceLeDiff, Nat.reduceEqDiff, decide_true, decide_false, fieldAddrF, undE, tupE, W22]
  refine CallK_use' (is38 hR f t) fun v s ⟨q1, q2⟩ => ?_
  subst q1; subst q2
  by_cases hL' : ¬ isL n f t
  · have hL := hL'
    have d1 : decide (isL n f t) = false := by simpa using hL
    simp only [d1, ↓RP, RS, Int.reduceBEq, Int.reduceBNe, Int.reduceLT, Int.reduceLE, Int.reduceAdd, Int.reduceSub, ↓reduceIte, Nat.reduceAdd, Nat.reduceMul, Nat.reduceSub, Nat.reduceLT, Nat.reduceLeDiff, Nat.reduceEqDiff, decide_true, decide_false, fieldAddrF, undE, tupE, W22]
    have fin : ∀ s', s'.getD 8 .undef = .d (.bool false) → K .ret s' s := fun s' h8 => hK.fin (r := .d (.bool false)) (by simp only [resF, resAll, resOne, e22, h8]) (Fin.only g0 rfl) ⟨_, rfl, by rw [d1], by rw [if_neg hL]⟩
    exact fin _ rfl
  have hL : isL n f t := Classical.not_not.1 hL'
  have d1 : decide (isL n f t) = true := by simpa using hL
  simp only [d1, ↓RP, RS, Int.reduceBEq, Int.reduceBNe, Int.reduceLT, Int.reduceLE, Int.reduceAdd, Int.reduceSub, ↓reduceIte, Nat.reduceAdd, Nat.reduceMul, Nat.reduceSub, Nat.reduceLT, Nat.reduceLeDiff, Nat.reduceEqDiff, decide_true, decide_false, fieldAddrF, undE, tupE, W22]
  rw [d1] at hK
  simp only [hL, if_true] at hK
  have hlm : (cuts.map cutE).length = cuts.length := by simp
  refine Loop_k [0, 1, 2, 3, 8, 9, 10] (fun x : Nat × List Ob × Option Nat => fr 0 70 [(0, .ptr 0 0 0), (1, .d (.int .i64 f)), (2, .d (.int .i64 t)), (3, .d (.bool on)), (8, .d (.bool false)), (9, cellQ x.2.2 (keepC f t (cuts.take x.1)).length), (10, .d (.int .i64 x.1))]) (fun x => x.2.1) (fun x => x.1 ≤ cuts.length ∧ x.2.1[0]? = some (.box ((refL n ls cuts).map .d)) ∧ ArrK x.2.1 x.2.2 ((keepC f t (cuts.take x.1)).map cutE) ∧ (∀ p, x.2.2 = some p → p ≠ 0)) (fun x => cuts.length - x.1) (0, s, none) (by kernel_rfl) rfl ⟨Nat.zero_le _, g0, rfl, fun p e => by cases e⟩ fun ⟨k, sk, q⟩ ⟨hk, b0, hA, hq⟩ => ?_
  simp only at hk b0 hA hq ⊢
  have a1 := alive_of b0 (by simp)
  have l1 : loadF Try.prog 69 sk (.ptr 0 0 2) = some (.d (.lst 1 (cuts.map cutE))) := load_box b0 rfl (by simp only [W22]) (by simp only [W22])
  have hkl : (keepC f t (cuts.take k)).length ≤ k := by
    have := List.length_filter_le (fun c : Int × Int => !(c.1 == f && c.2 == t)) (cuts.take k)
    simp only [List.length_take] at this
    unfold keepC; omega
  by_cases hlt : k < cuts.length
  · have e3 : decide ((k : Int) < (cuts.length : Int)) = true := by simpa using hlt
    have hs := keepC_succ f t hlt
    generalize hc : cuts[k] = c at hs
    obtain ⟨a, b⟩ := c
    simp only at hs
    have x1 : ∀ σ, indexAddrF Try.prog 69 σ (.d (.lst 1 (cuts.map cutE))) (.d (.int .i64 (k : Int))) = some (.ipt [cutE (a, b)]) := fun σ => index_lst1 (P := Try.prog) (t := 69) (e := 55) (by simp only [W22]) (by simp only [W22]) (by rw [List.getElem?_map, List.getElem?_eq_getElem hlt, hc]; rfl) rfl
    have x2 : ∀ σ, loadF Try.prog 55 σ (.ipt [cutE (a, b)]) = some (.d (.lst 1 [.int .i64 a, .int .i64 b])) := fun σ => ld_ipt rfl (by simp only [W22]) (by simp only [W22])
    have x3 := fun σ => (idx55 a b σ).1
    have x4 := fun σ => (idx55 a b σ).2
    have x5 : ∀ σ a, loadF Try.prog 3 σ (.ipt [.int .i64 a]) = some (.d (.int .i64 a)) := fun σ a => ld_ipt rfl (by simp only [W22]) (by simp only [W22])
    have w1 : IntKind.i64.wrap ((k : Int) + 1) = ((k + 1 : Nat) : Int) := by rw [IntWalk.i64_in _ (by omega)]; rfl
    have bs := fun (s : List V) (hg : get s (.tmp 56) = .d (cutE (a, b))) => build_c22 (σ := sk) (s := s) (x := .tmp 56) (d := cutE (a, b)) rfl hg (by intro e; cases e)
    obtain ⟨q', σ', p1, p2, p3, p4⟩ := app_oneR (d := cutE (a, b)) hA (by simp; omega) (t := 69) (e := 55) (b := 24) (by simp only [W22]) (by simp only [W22]) (by simp only [W22]) (by simp only [W22]) (by simp only [W22]) (by decide)
    rw [List.length_map] at p1
    have bs' : ∀ s : List V, get s (.tmp 56) = .d (.lst 1 [.int .i64 a, .int .i64 b]) → buildSliceF Try.prog 69 1 sk s [(0, .tmp 56)] = some (.sl sk.length 0 1, sk ++ [.arr 1 false [cutE (a, b)]]) := bs
    have ne : ∀ x y : Int, (x != y) = !(x == y) := fun _ _ => rfl
    by_cases g1 : (a == f) = true
    · by_cases g2 : (b == t) = true
      · rw [g1, g2] at hs
        simp only [fr, ↓RP, RS, Int.reduceBEq, Int.reduceBNe, Int.reduceLT, Int.reduceLE, Int.reduceAdd, Int.reduceSub, ↓reduceIte, Nat.reduceAdd, Nat.reduceMul, Nat.reduceSub, Nat.reduceLT, Nat.reduceLeDiff, Nat.reduceEqDiff, decide_true, decide_false, fieldAddrF, undE, tupE, W22, a1, l1, hlm, e3, x1, x2, x3, x4, x5, ne, g1, g2, w1]
        refine seqK_n ⟨(k + 1, sk, q), ⟨by simp only; omega, b0, by simp only; rw [hs]; simpa using hA, hq⟩, by simp only; omega, by rw [hs]; simp only [Bool.and_self, if_true, List.append_nil]; kernel_rfl, rfl⟩
      · have g2' : (b == t) = false := by simpa using g2
        rw [g1, g2'] at hs
        simp only [fr, ↓RP, RS, Int.reduceBEq, Int.reduceBNe, Int.reduceLT, Int.reduceLE, Int.reduceAdd, Int.reduceSub, ↓reduceIte, Nat.reduceAdd, Nat.reduceMul, Nat.reduceSub, Nat.reduceLT, Nat.reduceLeDiff, Nat.reduceEqDiff, decide_true, decide_false, fieldAddrF, undE, tupE, W22, a1, l1, hlm, e3, x1, x2, x3, x4, x5, ne, g1, g2', w1, bs', List.toList_toArray, p1]
        refine seqK_n ⟨(k + 1, σ', q'), ⟨by simp only; omega, p4.get b0 (fun e => hq 0 e rfl), by simp only; rw [hs]; simpa using p2, fun p e => ?_⟩, by simp only; omega, by rw [hs]; simp only [Bool.and_false, Bool.false_eq_true, if_false, List.length_append, List.length_cons, List.length_nil]; kernel_rfl, rfl⟩
        rcases p3 p e with g | g
        · exact hq p g
        · have := lt_of_get b0; omega
    · have g1' : (a == f) = false := by simpa using g1
      rw [g1'] at hs
      simp only [fr, ↓RP, RS, Int.reduceBEq, Int.reduceBNe, Int.reduceLT, Int.reduceLE, Int.reduceAdd, Int.reduceSub, ↓reduceIte, Nat.reduceAdd, Nat.reduceMul, Nat.reduceSub, Nat.reduceLT, Nat.reduceLeDiff, Nat.reduceEqDiff, decide_true, decide_false, fieldAddrF, undE, tupE, W22, a1, l1, hlm, e3, x1, x2, x3, x4, x5, ne, g1', w1, bs', List.toList_toArray, p1]
      refine seqK_n ⟨(k + 1, σ', q'), ⟨by simp only; omega, p4.get b0 (fun e => hq 0 e rfl), by simp only; rw [hs]; simpa using p2, fun p e => ?_⟩, by simp only; omega, by rw [hs]; simp only [Bool.false_and, Bool.false_eq_true, if_false, List.length_append, List.length_cons, List.length_nil]; kernel_rfl, rfl⟩
      rcases p3 p e with g | g
      · exact hq p g
      · have := lt_of_get b0; omega
  have e3 : decide ((k : Int) < (cuts.length : Int)) = false := by simpa using hlt
  rw [List.take_of_length_le (by omega)] at hA hkl
  simp only [fr, ↓RP, RS, Int.reduceBEq, Int.reduceBNe, Int.reduceLT, Int.reduceLE, Int.reduceAdd, Int.reduceSub, ↓reduceIte, Nat.reduceAdd, Nat.reduceMul, Nat.reduceSub, Nat.reduceLT, Nat.reduceLeDiff, Nat.reduceEqDiff, decide_true, decide_false, fieldAddrF, undE, tupE, W22, a1, l1, hlm, e3]
  rw [List.take_of_length_le (by omega)]
  have last : ∀ (τ : List Ob) (q : Option Nat) (l : List (Int × Int)), τ[0]? = some (.box ((refL n ls cuts).map .d)) → ArrK τ q (l.map cutE) → (∀ p, q = some p → p ≠ 0) → l = cutR f t on cuts →
      ∃ τ', storeF Try.prog 69 τ (.ptr 0 0 2) (cellQ q l.length) = some τ' ∧ ∀ s, s.getD 8 .undef = .d (.bool true) → K .ret s τ' := fun τ q l c0 cA cq hl => by
    subst hl
    cases q with
    | none =>
      simp only [ArrK, List.map_eq_nil_iff] at cA
      have st := store_box (P := Try.prog) (t := 69) (k := 2) (x := .d .nils) c0 rfl (by simp [refL]) (by simp only [W22])
      refine ⟨_, st, fun s hs => ?_⟩
      have z0 : (τ.set 0 (.box (((refL n ls cuts).map V.d).set 2 (.d .nils))))[0]? = some (.box [.d (.int .i64 n), .d (.lst 34 ls), .d .nils]) := by rw [set_at c0]; rfl
      have f1 : Fin 1 (.d (.bool true)) (τ.set 0 (.box (((refL n ls cuts).map V.d).set 2 (.d .nils)))) (.d (.bool true)) ((τ.set 0 (.box (((refL n ls cuts).map V.d).set 2 (.d .nils)))).set 0 (.box ((refL n ls (cutR f t on cuts)).map .d))) :=
        Weak.box z0 ⟨_, _, rfl, VLe.refl _, _, _, rfl, VLe.refl _, _, _, rfl, by rw [cA]; exact VLe.nils 1, rfl⟩
      exact hK.fin (r := .d (.bool true)) (by simp only [resF, resAll, resOne, e22, hs]) (f1.trans (Fin.only (set_at z0 _) rfl)) ⟨_, rfl, rfl, rfl⟩
    | some p =>
      obtain ⟨mk, cA⟩ := cA
      have hp := cq p rfl
      have st := store_box (P := Try.prog) (t := 69) (k := 2) (x := .sl p 0 (cutR f t on cuts).length) c0 (one_sl (alive_of cA (by simp))) (by simp [refL]) (by simp only [W22])
      refine ⟨_, st, fun s hs => ?_⟩
      have z0 : (τ.set 0 (.box (((refL n ls cuts).map V.d).set 2 (.sl p 0 (cutR f t on cuts).length))))[0]? = some (.box [.d (.int .i64 n), .d (.lst 34 ls), .sl p 0 (cutR f t on cuts).length]) := by rw [set_at c0]; rfl
      have zp := set_get cA (fun e => hp e.symm) (.box (((refL n ls cuts).map V.d).set 2 (.sl p 0 (cutR f t on cuts).length)))
      refine hK.fin (r := .d (.bool true)) (by simp only [resF, resAll, resOne, e22, hs]) (Fin.frz1 (ds := refL n ls (cutR f t on cuts)) z0 zp ?_ hp rfl rfl) ⟨_, rfl, rfl, rfl⟩
      simp only [frzVs, frzV, if_true, Nat.zero_add, List.drop_zero, refL, List.map_cons, List.map_nil, List.length_map, Nat.le_refl]
      rw [List.take_of_length_le (by simp)]
  cases on with
  | false =>
    obtain ⟨τ', st, fin⟩ := last sk q (keepC f t cuts) b0 hA hq (by simp [cutR])
    simp only [↓RP, RS, Int.reduceBEq, Int.reduceBNe, Int.reduceLT, Int.reduceLE, Int.reduceAdd, Int.reduceSub, ↓reduceIte, Nat.reduceAdd, Nat.reduceMul, Nat.reduceSub, Nat.reduceLT, Nat.reduceLeDiff, Nat.reduceEqDiff, decide_true, decide_false, fieldAddrF, undE, tupE, W22, a1, st]
    exact fin _ rfl
  | true =>
    have bl := fun (s : List V) (h1 : get s (.tmp 61) = .d (.int .i64 f)) (h2 : get s (.tmp 62) = .d (.int .i64 t)) => build_l22 (σ := sk) h1 h2
    have bs := fun (s : List V) (hg : get s (.tmp 63) = .d (cutE (f, t))) => build_c22 (σ := sk) (s := s) (x := .tmp 63) (d := cutE (f, t)) rfl hg (by intro e; cases e)
    obtain ⟨q', σ', p1, p2, p3, p4⟩ := app_oneR (d := cutE (f, t)) hA (by simp; omega) (t := 69) (e := 55) (b := 24) (by simp only [W22]) (by simp only [W22]) (by simp only [W22]) (by simp only [W22]) (by simp only [W22]) (by decide)
    rw [List.length_map] at p1
    have c0 := p4.get b0 (fun e => hq 0 e rfl)
    have ac := alive_of c0 (by simp)
    have hq' : ∀ p, q' = some p → p ≠ 0 := fun p e => by
      rcases p3 p e with g | g
      · exact hq p g
      · have := lt_of_get b0; omega
    obtain ⟨τ', st, fin⟩ := last σ' q' (keepC f t cuts ++ [(f, t)]) c0 (by simpa using p2) hq' (by simp [cutR])
    have hl : (keepC f t cuts ++ [(f, t)]).length = (keepC f t cuts).length + 1 := by simp
    rw [hl] at st
    simp only [↓RP, RS, Int.reduceBEq, Int.reduceBNe, Int.reduceLT, Int.reduceLE, Int.reduceAdd, Int.reduceSub, ↓reduceIte, Nat.reduceAdd, Nat.reduceMul, Nat.reduceSub, Nat.reduceLT, Nat.reduceLeDiff, Nat.reduceEqDiff, decide_true, decide_false, fieldAddrF, undE, tupE, W22, a1, bl, bs, List.toList_toArray, p1, ac, st]
    exact fin _ rfl
end
end Go.Proofs.Ytadddaafajennaa.Am
