/- The reference: what turns it. -/
import Derived.Test.YtadddaafajennaaRc
set_option linter.unusedSimpArgs false
set_option linter.unusedVariables false
set_option maxRecDepth 10000
set_option maxHeartbeats 2000000
namespace Go.Proofs.Ytadddaafajennaa.Am
open Go Go.Proofs

/-! ### a store of one box -/
theorem Weak.box {n : Nat} {s : List V} {σ : List Ob} {o : Nat} {cs cs' : List V} (h : σ[o]? = some (.box cs)) (hl : VLes cs cs') : Weak n s σ s (σ.set o (.box cs')) := fun c vs h1 h2 => by
  refine ⟨c.loc, ⟨fun o' => ?_, h1.inj, h1.hid⟩, h2, ExtN.refl n c⟩
  by_cases g : o' = o
  · subst g
    have r := h1.get h
    rw [List.getElem?_set_self (lt_of_get h)]
    obtain ⟨b, sz, e1, arr, e, f, e2, e3, e4⟩ := r
    exact ⟨b, sz, e1, arr, e, f, e2, e3, hl.vrs e4⟩
  · rw [List.getElem?_set_ne (fun e => g e.symm)]
    exact h1.obj o'
theorem Fin.only {τ : List Ob} {ds : List D} {r : V} (h : τ[0]? = some (.box (ds.map .d))) (hr : renV (keepG [0]) r = r) : Fin 1 r τ r [.box (ds.map .d)] := by
  have hf : ∀ i, i < 1 → ([0] : List Nat)[i]? = some i := fun i hi => by
    have : i = 0 := by omega
    subst this; rfl
  have := Fin.keep (n := 1) (r := r) (σ := τ) [0] (by simp) (fun o ho => by simp at ho; subst ho; exact lt_of_get h) hf
  rw [hr] at this
  have e : keepσ [0] τ = [.box (ds.map .d)] := by
    simp only [keepσ, List.map_cons, List.map_nil, List.getD_eq_getElem?_getD, h, Option.getD_some, renO, renVs_d]
  rw [e] at this
  exact this

theorem Fin.frz1 {τ : List Ob} {cs : List V} {ds es : List D} {p sz : Nat} {mk : Bool} {r : V} (h : τ[0]? = some (.box cs)) (hp : τ[p]? = some (.arr sz mk es)) (hz : frzVs p sz es cs = ds.map .d) (h0 : p ≠ 0) (hr1 : frzV p sz es r = r) (hr : renV (keepG [0]) r = r) : Fin 1 r τ r [.box (ds.map .d)] := by
  have f1 := Fin.freeze (n := 1) (r := r) hp
  rw [hr1] at f1
  refine f1.trans (Fin.only ?_ hr)
  simp only [frzσ, List.getElem?_map]
  rw [List.getElem?_set_ne h0, h, Option.map_some, frzO, hz]

theorem callA_box {P : Program} {f : FuncId} {args : List V} {xs : List D} {K : V → List D → Prop} (h : callA P f args [.box (xs.map .d)] fun r σ' => ∃ ys, σ' = [.box (ys.map .d)] ∧ K r ys) {τ : List Ob} {q : Nat} (hq : τ[q]? = some (.box (xs.map .d))) :
    callA P f (embVs [q] τ.length args) τ (fun r τ' => ∃ r0 ys, K r0 ys ∧ r = embV [q] τ.length r0 ∧ τ' = τ.set q (.box (ys.map .d))) := by
  refine callA_mono (callA_frame h [q] τ (by simp) rfl (fun i hi => by simp at hi; subst hi; exact lt_of_get hq) (fun j i hj => by
    cases j with
    | zero => simp at hj; subst hj; simp [embO, renO, hq, renVs_d]
    | succ j => simp at hj)) fun r τ' hr => ?_
  obtain ⟨r0, σ0, ⟨ys, rfl, hk⟩, rfl, rfl⟩ := hr
  exact ⟨r0, ys, hk, rfl, by simp [storeBack, backInto, embO, renO, renVs_d]⟩

theorem toD_map (σ : List Ob) (l : List D) : toD σ (.agg (l.map .d)) = some (.agg l) := by
  have key : ∀ (f : V → Option D), (∀ d, f (.d d) = some d) → (l.map V.d).mapM f = some l := by
    intro f hf
    induction l with
    | nil => rfl
    | cons x r ih => simp [List.mapM_cons, hf, ih]
  simp only [toD]
  rw [key _ (fun d => rfl)]

def refL (n : Nat) (ls : List D) (cuts : List (Int × Int)) : List D := [.int .i64 n, .lst 34 ls, .lst 1 (cuts.map cutE)]
structure RefOk (n : Nat) (ls : List D) (cuts : List (Int × Int)) : Prop where
  n20 : n ≤ 20
  msg : ∀ m ∈ ls, MsgF m
  fewl : ls.length ≤ 900
  fewc : cuts.length ≤ 900
theorem RefOk.at {n : Nat} {ls : List D} {cuts : List (Int × Int)} (h : RefOk n ls cuts) {σ : List Ob} {y : Nat} (hb : σ[y]? = some (.box ((refL n ls cuts).map .d))) : RefAt σ y n ls cuts := ⟨hb, h.n20, h.msg, by have := h.fewl; omega, by have := h.fewc; omega⟩

section
variable {n : Nat} {ls : List D} {cuts : List (Int × Int)}

theorem new11 (k : Int) : callA Try.prog 11 [.d (.int .i64 k)] [] fun r σ' => r = .ptr 0 0 0 ∧ σ' = [.box ((refL (manyOf k) [] []).map .d)] := by
  refine w11.go fun K hK => ?_
  have e1 : min (max k 0) 20 = ((manyOf k : Nat) : Int) := by unfold manyOf; omega
  have b1 : ∀ (s : List V) σ, get s (.tmp 5) = .d (.int .i64 (manyOf k : Nat)) → buildF Try.prog 71 σ s [(0, .tmp 5)] = some (.agg [.d (.int .i64 (manyOf k : Nat)), .d .nils, .d .nils]) := fun s σ hs => by
    simp only [buildF, W11, fillV, hs, cellsV]
    rfl
  simp only [e11, c11, p11, Try.f11, codeOf, comp, opsOf, stOf, cop, cstp, copAt, planFor, List.find?, List.find?_nil, Option.map_none, Option.getD_none, List.any_cons, List.any_nil, Stp.idx, Bool.or_false, Nat.reduceBEq, ↓RP, RS, Int.reduceBEq, Int.reduceBNe, Int.reduceLT, Int.reduceLE, Int.reduceAdd, Int.reduceSub, ↓reduceIte, Nat.reduceAdd, Nat.reduceMul, Nat.reduceSub, Nat.reduceLT, Nat.reduceLeDiff, Nat.reduceEqDiff, decide_true, decide_false, fieldAddrF, undE, tupE, W11, min2, max2, e1, b1, List.toList_toArray, boxE, cellsV]
  refine hK.fin (by rfl) (Weak.box (o := 0) (cs' := (refL (manyOf k) [] []).map .d) rfl ?_) ⟨rfl, rfl⟩
  exact ⟨_, _, rfl, VLe.refl _, _, _, rfl, VLe.nils 34, _, _, rfl, VLe.nils 1, rfl⟩

theorem add39 (h : RefOk n ls cuts) {m : List D} (m34 : m.length = 34) (m1 : m.all one1 = true) :
    callA Try.prog 39 [.ptr 0 0 0, .agg (m.map .d)] [.box ((refL n ls cuts).map .d)] fun r σ' => ∃ ys, σ' = [.box (ys.map .d)] ∧ ys = refL n (ls ++ [.agg m]) cuts := by
  refine w39.go fun K hK => ?_
  have hfew := h.fewl
  obtain ⟨σ1, hσ1⟩ : ∃ σ1, σ1 = [Ob.box ((refL n ls cuts).map .d), .box (m.map .d)] := ⟨_, rfl⟩
  have g0 : σ1[0]? = some (.box ((refL n ls cuts).map .d)) := by rw [hσ1]; rfl
  have g1 : σ1[1]? = some (.box (m.map .d)) := by rw [hσ1]; rfl
  have gl : σ1.length = 2 := by rw [hσ1]; rfl
  have hf : flatOk (.agg m) 34 = true := by simp [flatOk, D.csz, D.cells, m34, m1]
  have b1 : ∀ (σ : List Ob) s, get s (.tmp 11) = .agg (m.map .d) → buildSliceD Try.prog 68 1 σ s [(0, .tmp 11)] = some (.d (.lst 34 [.agg m])) := fun σ s hs => by
    simp only [buildSliceD, W39, inOrder, toDs, toD_map, RS, hf, if_true, Nat.reduceMul, Nat.reduceLeDiff, Nat.reduceAdd, hs]
  have b2 : ∀ s, buildSliceF Try.prog 68 0 σ1 s [] = some (.sl σ1.length 0 0, σ1 ++ [.arr 34 false []]) := fun s => by
    simp only [buildSliceF, W39, inOrder, toDs]; rfl
  obtain ⟨σ2, hσ2⟩ : ∃ σ2, σ2 = σ1 ++ [Ob.arr 34 false []] := ⟨_, rfl⟩
  rw [gl, ← hσ2] at b2
  have k0 : σ2[2]? = some (.arr 34 false []) := by rw [hσ2, List.getElem?_append_right (by omega), gl]; rfl
  have h0 : σ2[0]? = some (.box ((refL n ls cuts).map .d)) := by rw [hσ2]; exact app_get g0 _
  have h1 : σ2[1]? = some (.box (m.map .d)) := by rw [hσ2]; exact app_get g1 _
  have sl2 : σ2.length = 3 := by rw [hσ2]; simp [gl]
  obtain ⟨p1, σ3, a1, q1, q2, q3⟩ := app_any (P := Try.prog) (t := 68) (tx := 68) (e := 42) (b := 344) k0 (by simp only [W39]) (by simp only [W39]) (by simp only [W39]) (src_lst (sz := 34) (ds := ls) (by simp only [W39]) (by simp only [W39])) (by simp only [W39]) (by simp; omega) (by decide)
  rw [List.nil_append] at q1
  have i0 : σ3[0]? = some (.box ((refL n ls cuts).map .d)) := q3.get h0 (by omega)
  have i1 : σ3[1]? = some (.box (m.map .d)) := q3.get h1 (by omega)
  have p1n : 2 ≤ p1 := by omega
  obtain ⟨p2, σ4, a2, r1, r2, r3⟩ := app_any (P := Try.prog) (t := 68) (tx := 68) (e := 42) (b := 344) q1 (by simp only [W39]) (by simp only [W39]) (by simp only [W39]) (src_lst (sz := 34) (ds := [.agg m]) (by simp only [W39]) (by simp only [W39])) (by simp only [W39]) (by simp; omega) (by decide)
  have j0 : σ4[0]? = some (.box ((refL n ls cuts).map .d)) := r3.get i0 (by omega)
  have q3l := q3.1
  have p2n : 2 ≤ p2 := by omega
  have l0 : ∀ (τ : List Ob), τ[0]? = some (.box ((refL n ls cuts).map .d)) → loadF Try.prog 68 τ (.ptr 0 0 1) = some (.d (.lst 34 ls)) := fun τ g => load_box g rfl (by simp only [W39]) (by simp only [W39])
  have l1 := fun (τ : List Ob) (g : τ[1]? = some (.box (m.map .d))) => load_all (P := Try.prog) (t := 42) g (by simp [m34, W39]) (by simp only [W39]) (by simp only [W39]; decide)
  have A0 := fun (τ : List Ob) (g : τ[0]? = some (.box ((refL n ls cuts).map .d))) => alive_of g (by simp)
  have A1 := fun (τ : List Ob) (g : τ[1]? = some (.box (m.map .d))) => alive_of g (by simp)
  have a4 : alive σ4 p2 = true := alive_of r1 (by simp)
  have st := store_box (P := Try.prog) (t := 68) (k := 1) (x := .sl p2 0 (ls.length + 1)) j0 (one_sl a4) (by simp [refL]) (by simp only [W39])
  simp only [List.length_nil, Nat.zero_add] at a1
  have hsl : (ls ++ [D.agg m]).length = ls.length + 1 := by simp
  simp only [List.length_cons, List.length_nil, Nat.zero_add] at a2
  simp only [e39, c39, p39, Try.f39, codeOf, comp, opsOf, stOf, cop, cstp, copAt, planFor, List.find?, List.find?_nil, Option.map_none, Option.getD_none, List.any_cons, List.any_nil, Stp.idx, Bool.or_false, Nat.reduceBEq, ↓RP, RS, Int.reduceBEq, Int.reduceBNe, Int.reduceLT, Int.reduceLE, Int.reduceAdd, Int.reduceSub, ↓reduceIte, Nat.reduceAdd, Nat.reduceMul, Nat.reduceSub, Nat.reduceLT, Nat.reduceLeDiff, Nat.reduceEqDiff, decide_true, decide_false, fieldAddrF, undE, tupE, W39, boxE, cellsV, ← hσ1, A0 _ g0, l0 _ g0, l1 _ g1, b1, b2, List.toList_toArray]
  simp only [chkC, wantC, ↓RP, RS, Int.reduceBEq, Int.reduceBNe, Int.reduceLT, Int.reduceLE, Int.reduceAdd, Int.reduceSub, ↓reduceIte, Nat.reduceAdd, Nat.reduceMul, Nat.reduceSub, Nat.reduceLT, Nat.reduceLeDiff, Nat.reduceEqDiff, decide_true, decide_false, fieldAddrF, undE, tupE, W39, A0 _ h0, l0 _ h0, l1 _ h1, b1, List.toList_toArray, a1, A0 _ i0, l1 _ i1, a2, A0 _ j0, st]
  have z0 : (σ4.set 0 (.box (((refL n ls cuts).map V.d).set 1 (.sl p2 0 (ls.length + 1)))))[0]? = some (.box [.d (.int .i64 n), .sl p2 0 (ls.length + 1), .d (.lst 1 (cuts.map cutE))]) := by
    rw [List.getElem?_set_self (lt_of_get j0)]; rfl
  have z1 : (σ4.set 0 (.box (((refL n ls cuts).map V.d).set 1 (.sl p2 0 (ls.length + 1)))))[p2]? = some (.arr 34 false (ls ++ [.agg m])) := by
    rw [List.getElem?_set_ne (by omega)]; exact r1
  refine hK.nfin (by rfl) (Fin.frz1 (ds := refL n (ls ++ [.agg m]) cuts) z0 z1 ?_ (by omega) rfl rfl) ⟨_, rfl, rfl⟩
  simp only [frzVs, frzV, if_true, Nat.zero_add, hsl, Nat.le_refl, List.drop_zero, refL, List.map_cons, List.map_nil]
  rw [List.take_of_length_le (by rw [hsl]; omega)]

/-- The same, wherever the reference lies. -/
theorem add39v (h : RefOk n ls cuts) {m : List D} (m34 : m.length = 34) (m1 : m.all one1 = true) {σ : List Ob} {y : Nat} (hb : σ[y]? = some (.box ((refL n ls cuts).map .d))) :
    callA Try.prog 39 [.ptr y 0 0, .agg (m.map .d)] σ fun r σ' => σ' = σ.set y (.box ((refL n (ls ++ [.agg m]) cuts).map .d)) := by
  have := callA_box (K := fun r ys => ys = refL n (ls ++ [.agg m]) cuts) (add39 h m34 m1) hb
  have e : embVs [y] σ.length [.ptr 0 0 0, .agg (m.map .d)] = [.ptr y 0 0, .agg (m.map .d)] := by simp [embVs, renVs, renV, emb, renVs_d]
  rw [e] at this
  refine callA_mono this fun r σ' ⟨r0, ys, h1, h2, h3⟩ => ?_
  subst h1; exact h3


theorem send14 (h : RefOk n ls cuts) {m : List D} {f t : Int} (m34 : m.length = 34) (m1 : m.all one1 = true) (c1 : m[1]? = some (.int .i64 f)) (c2 : m[2]? = some (.int .i64 t)) :
    callA Try.prog 14 [.ptr 0 0 0, .agg (m.map .d)] [.box ((refL n ls cuts).map .d)] fun r σ' => ∃ ys, σ' = [.box (ys.map .d)] ∧ (r = .d (.bool (decide (isL n f t) && !offR cuts f t)) ∧ ys = if isL n f t ∧ offR cuts f t = false then refL n (ls ++ [.agg m]) cuts else refL n ls cuts) := by
  refine w14.go fun K hK => ?_
  have hfew := h.fewl
  have hle := lenR_le ls f t
  obtain ⟨σ1, hσ1⟩ : ∃ σ1, σ1 = [Ob.box ((refL n ls cuts).map .d), .box (m.map .d)] := ⟨_, rfl⟩
  have g0 : σ1[0]? = some (.box ((refL n ls cuts).map .d)) := by rw [hσ1]; rfl
  have g1 : σ1[1]? = some (.box (m.map .d)) := by rw [hσ1]; rfl
  have a1 := alive_of g1 (by simp)
  have hR := h.at g0
  have l1 := load_box (P := Try.prog) (t := 3) (k := 1) g1 (d_get c1) (by simp only [W14]) (by simp only [W14])
  have l2 := load_box (P := Try.prog) (t := 3) (k := 2) g1 (d_get c2) (by simp only [W14]) (by simp only [W14])
  have l3 := load_all (P := Try.prog) (t := 42) g1 (by simp [m34, W14]) (by simp only [W14]) (by simp only [W14]; decide)
  have fin : ∀ s b, resF Try.prog s σ1 e14.rs = some (.d (.bool b)) → b = (decide (isL n f t) && !offR cuts f t) → ¬ (isL n f t ∧ offR cuts f t = false) → K .ret s σ1 := fun s b hs hb hn => hK.fin hs (Fin.only g0 rfl) ⟨_, rfl, by rw [hb], by rw [if_neg hn]⟩
  simp only [e14, c14, p14, Try.f14, codeOf, comp, opsOf, stOf, cop, cstp, copAt, planFor, List.find?, List.find?_nil, Option.map_none, Option.getD_none, List.any_cons, List.any_nil, Stp.idx, Bool.or_false, Nat.reduceBEq, ↓RP, RS, Int.reduceBEq, Int.reduceBNe, Int.reduceLT, Int.reduceLE, Int.reduceAdd, Int.reduceSub, ↓reduceIte, Nat.reduceAdd, Nat.reduceMul, Nat.reduceSub, Nat.reduceLT, Nat.reduceLeDiff, Nat.reduceEqDiff, decide_true, decide_false, fieldAddrF, undE, tupE, W14, boxE, cellsV, ← hσ1, a1, l1, l2]
  refine CallK_use' (is38 hR f t) fun v s ⟨q1, q2⟩ => ?_
  subst q1; subst q2
  by_cases d1 : isL n f t
  · have d1' : decide (isL n f t) = true := by simpa using d1
    simp only [d1', ↓RP, RS, Int.reduceBEq, Int.reduceBNe, Int.reduceLT, Int.reduceLE, Int.reduceAdd, Int.reduceSub, ↓reduceIte, Nat.reduceAdd, Nat.reduceMul, Nat.reduceSub, Nat.reduceLT, Nat.reduceLeDiff, Nat.reduceEqDiff, decide_true, decide_false, fieldAddrF, undE, tupE, W14, a1, l1, l2]
    refine CallK_use' (off27 hR f t) fun v s ⟨q1, q2⟩ => ?_
    subst q1; subst q2
    by_cases d2 : offR cuts f t = true
    · simp only [d2, ↓RP, RS, Int.reduceBEq, Int.reduceBNe, Int.reduceLT, Int.reduceLE, Int.reduceAdd, Int.reduceSub, ↓reduceIte, Nat.reduceAdd, Nat.reduceMul, Nat.reduceSub, Nat.reduceLT, Nat.reduceLeDiff, Nat.reduceEqDiff, decide_true, decide_false, fieldAddrF, undE, tupE, W14, a1, l1, l2]
      exact fin _ false rfl (by simp [d2]) (by simp [d2])
    · have d2' : offR cuts f t = false := by simpa using d2
      simp only [d2', ↓RP, RS, Int.reduceBEq, Int.reduceBNe, Int.reduceLT, Int.reduceLE, Int.reduceAdd, Int.reduceSub, ↓reduceIte, Nat.reduceAdd, Nat.reduceMul, Nat.reduceSub, Nat.reduceLT, Nat.reduceLeDiff, Nat.reduceEqDiff, decide_true, decide_false, fieldAddrF, undE, tupE, W14, a1, l1, l2]
      refine CallK_use' (len25 hR f t) fun v s ⟨q1, q2⟩ => ?_
      subst q1; subst q2
      have d3 : decide (1024 ≤ ((lenR ls f t : Nat) : Int)) = false := by simp; omega
      simp only [d3, ↓RP, RS, Int.reduceBEq, Int.reduceBNe, Int.reduceLT, Int.reduceLE, Int.reduceAdd, Int.reduceSub, ↓reduceIte, Nat.reduceAdd, Nat.reduceMul, Nat.reduceSub, Nat.reduceLT, Nat.reduceLeDiff, Nat.reduceEqDiff, decide_true, decide_false, fieldAddrF, undE, tupE, W14, a1, l3]
      refine CallK_use' (add39v h m34 m1 g0) fun v s q2 => ?_
      subst q2
      simp only [↓RP, RS, Int.reduceBEq, Int.reduceBNe, Int.reduceLT, Int.reduceLE, Int.reduceAdd, Int.reduceSub, ↓reduceIte, Nat.reduceAdd, Nat.reduceMul, Nat.reduceSub, Nat.reduceLT, Nat.reduceLeDiff, Nat.reduceEqDiff, decide_true, decide_false, fieldAddrF, undE, tupE, W14]
      refine hK.fin (by rfl) (Fin.only (ds := refL n (ls ++ [.agg m]) cuts) (by rw [List.getElem?_set_self (lt_of_get g0)]) rfl) ⟨_, rfl, by simp [d1, d2'], by rw [if_pos ⟨d1, d2'⟩]⟩
  · have d1' : decide (isL n f t) = false := by simpa using d1
    simp only [d1', ↓RP, RS, Int.reduceBEq, Int.reduceBNe, Int.reduceLT, Int.reduceLE, Int.reduceAdd, Int.reduceSub, ↓reduceIte, Nat.reduceAdd, Nat.reduceMul, Nat.reduceSub, Nat.reduceLT, Nat.reduceLeDiff, Nat.reduceEqDiff, decide_true, decide_false, fieldAddrF, undE, tupE, W14, a1, l1, l2]
    exact fin _ false rfl (by simp [d1]) (fun q => d1 q.1)
end
end Go.Proofs.Ytadddaafajennaa.Am
