/- The reference: Take, Lose, Twice. -/
import Derived.Test.YtadddaafajennaaRd
set_option linter.unusedSimpArgs false
set_option linter.unusedVariables false
set_option maxRecDepth 10000
set_option maxHeartbeats 2000000
namespace Go.Proofs.Ytadddaafajennaa.Am
open Go Go.Proofs

theorem app_two (σ1 : List Ob) (a b : List D) (ha : a.length ≤ 2000) (hb : b.length ≤ 2000) : ∃ σ2 p1 σ3 p2 σ4, σ2 = σ1 ++ [.arr 34 false []] ∧ appE Try.prog 68 68 σ2 (.sl σ1.length 0 0) (.d (.lst 34 a)) = some (.sl p1 0 a.length, σ3) ∧ appE Try.prog 68 68 σ3 (.sl p1 0 a.length) (.d (.lst 34 b)) = some (.sl p2 0 (a.length + b.length), σ4) ∧ σ4[p2]? = some (.arr 34 false (a ++ b)) ∧ σ1.length ≤ p2 ∧ σ2.length ≤ σ4.length ∧ (∀ (o : Nat) x, σ1[o]? = some x → σ2[o]? = some x ∧ σ3[o]? = some x ∧ σ4[o]? = some x) := by
  obtain ⟨σ2, hσ2⟩ : ∃ σ2, σ2 = σ1 ++ [Ob.arr 34 false []] := ⟨_, rfl⟩
  have hab : (a.length + b.length) * 344 ≤ 70368744177664 := by
    have : (a.length + b.length) * 344 ≤ 4000 * 344 := Nat.mul_le_mul_right _ (by omega)
    omega
  have k0 : σ2[σ1.length]? = some (.arr 34 false []) := by rw [hσ2]; simp
  have sl2 : σ2.length = σ1.length + 1 := by rw [hσ2]; simp
  obtain ⟨p1, σ3, a1, q1, q2, q3⟩ := app_any (P := Try.prog) (t := 68) (tx := 68) (e := 42) (b := 344) k0 (by simp only [W39]) (by simp only [W39]) (by simp only [W39]) (src_lst (sz := 34) (ds := a) (by simp only [W39]) (by simp only [W39])) (by simp only [W39]) (by simp; omega) (by decide)
  rw [List.nil_append] at q1
  obtain ⟨p2, σ4, a2, r1, r2, r3⟩ := app_any (P := Try.prog) (t := 68) (tx := 68) (e := 42) (b := 344) q1 (by simp only [W39]) (by simp only [W39]) (by simp only [W39]) (src_lst (sz := 34) (ds := b) (by simp only [W39]) (by simp only [W39])) (by simp only [W39]) hab (by decide)
  simp only [List.length_nil, Nat.zero_add] at a1
  have q3l := q3.1
  have r3l := r3.1
  refine ⟨σ2, p1, σ3, p2, σ4, hσ2, a1, a2, r1, by omega, by omega, fun o x hx => ?_⟩
  have ho := lt_of_get hx
  have x2 : σ2[o]? = some x := by rw [hσ2]; exact app_get hx _
  have x3 := q3.get x2 (by omega)
  exact ⟨x2, x3, r3.get x3 (by omega)⟩

theorem atR_some {f t : Int} : ∀ {ls : List D} {i : Int} {k : Nat}, atR f t ls i = some k → 0 ≤ i ∧ k < ls.length
  | [], i, k, h => by cases h
  | m :: r, i, k, h => by
    rw [atR] at h
    split at h
    · split at h
      · cases h; simp; omega
      · cases e : atR f t r (i - 1) with
        | none => rw [e] at h; cases h
        | some j =>
          rw [e] at h
          have := atR_some e
          simp only [Option.map_some, Option.some.injEq] at h
          simp; omega
    · cases e : atR f t r i with
      | none => rw [e] at h; cases h
      | some j =>
        rw [e] at h
        have := atR_some e
        simp only [Option.map_some, Option.some.injEq] at h
        simp; omega

section
variable {n : Nat} {ls : List D} {cuts : List (Int × Int)}

theorem take16 (h : RefOk n ls cuts) (f t i : Int) : callA Try.prog 16 [.ptr 0 0 0, .d (.int .i64 f), .d (.int .i64 t), .d (.int .i64 i)] [.box ((refL n ls cuts).map .d)] fun r σ' => ∃ ys, σ' = [.box (ys.map .d)] ∧
    (match atR f t ls i with | some k => r = .tup [.d (ls.getD k noMsg), .d (.bool true)] ∧ ys = refL n (ls.eraseIdx k) cuts | none => r = .tup [.d noMsg, .d (.bool false)] ∧ ys = refL n ls cuts) := by
  refine w16.go fun K hK => ?_
  have hfew := h.fewl
  obtain ⟨σ1, hσ1⟩ : ∃ σ1, σ1 = [Ob.box ((refL n ls cuts).map .d), .box z42] := ⟨_, rfl⟩
  have g0 : σ1[0]? = some (.box ((refL n ls cuts).map .d)) := by rw [hσ1]; rfl
  have g1 : σ1[1]? = some (.box z42) := by rw [hσ1]; rfl
  have gl : σ1.length = 2 := by rw [hσ1]; rfl
  have hR := h.at g0
  have bz : ∀ (σ : List Ob) s, buildF Try.prog 42 σ s [] = some (.agg z42) := fun σ s => by simp only [buildF, W16, fillV, Option.map_some]
  have sz := store_agg (P := Try.prog) (t := 42) (k := 0) (xs := z42) g1 (by rfl) (by simp) (by simp [W16]) (by simp [W16])
  rw [setAt_all rfl, set_same g1] at sz
  have lz := load_all (P := Try.prog) (t := 42) g1 (by simp [W16]) (by simp only [W16]) (by simp [W16])
  have a1 := alive_of g1 (by simp)
  have al0 : allocE Try.prog 42 [.box ((refL n ls cuts).map .d)] = some (.ptr 1 0 0, σ1) := by rw [hσ1]; simp only [allocE, W16]; rfl
  have no : ∀ s, atR f t ls i = none → s.getD 8 .undef = .ptr 1 0 0 → s.getD 9 .undef = .d (.bool false) → K .ret s σ1 := fun s hn h8 h9 => by
    simp only [hn] at hK
    have f1 : Fin 1 (.tup [.agg z42, .d (.bool false)]) σ1 (.tup [.d noMsg, .d (.bool false)]) σ1 := Fin.le (VLe_tup ⟨_, _, rfl, by simp only [noMsg]; exact VLe.agg (z42.map fun | .d d => d | _ => .any), VLes.refl _⟩)
    refine hK.fin (r := .tup [.agg z42, .d (.bool false)]) (by simp only [resF, resAll, resOne, e16, h8, h9, lz]) (f1.trans (Fin.only g0 rfl)) ⟨_, rfl, rfl, rfl⟩
  simp only [e16, c16, p16, Try.f16, codeOf, comp, opsOf, stOf, cop, cstp, copAt, planFor, List.find?, List.find?_nil, Option.map_none, Option.getD_none, List.any_cons, List.any_nil, Stp.idx, Bool.or_false, Nat.reduceBEq, ↓RP, RS, Int.reduceBEq, Int.reduceBNe, Int.reduceLT, Int.reduceLE, Int.reduceAdd, Int.reduceSub, ↓reduceIte, Nat.reduceAdd, Nat.reduceMul, Nat.reduceSub, Nat.reduceLT, Nat.reduceLeDiff, Nat.reduceEqDiff, decide_true, decide_false, fieldAddrF, undE, tupE, W16, al0]
  refine CallK_use' (at42 hR f t i) fun v s ⟨q1, q2⟩ => ?_
  subst q1; subst q2
  cases hat : atR f t ls i with
  | none =>
    have d1 : decide (atI none < 0) = true := rfl
    by_cases d0 : i < 0
    · have d0' : decide (i < 0) = true := by simpa using d0
      simp only [↓RP, RS, Int.reduceBEq, Int.reduceBNe, Int.reduceLT, Int.reduceLE, Int.reduceAdd, Int.reduceSub, ↓reduceIte, Nat.reduceAdd, Nat.reduceMul, Nat.reduceSub, Nat.reduceLT, Nat.reduceLeDiff, Nat.reduceEqDiff, decide_true, decide_false, fieldAddrF, undE, tupE, W16, d0', bz, sz, a1]
      exact no _ hat rfl rfl
    · have d0' : decide (i < 0) = false := by simpa using d0
      simp only [↓RP, RS, Int.reduceBEq, Int.reduceBNe, Int.reduceLT, Int.reduceLE, Int.reduceAdd, Int.reduceSub, ↓reduceIte, Nat.reduceAdd, Nat.reduceMul, Nat.reduceSub, Nat.reduceLT, Nat.reduceLeDiff, Nat.reduceEqDiff, decide_true, decide_false, fieldAddrF, undE, tupE, W16, d0', d1, bz, sz, a1]
      exact no _ hat rfl rfl
  | some k =>
    obtain ⟨d0, hk⟩ := atR_some hat
    have d0' : decide (i < 0) = false := by simp; omega
    have d1 : decide (((k : Nat) : Int) < 0) = false := by simp
    have eA : atI (some k) = ((k : Nat) : Int) := rfl
    simp only [hat] at hK
    obtain ⟨cs, f', t', he, h34, hone, c1, c2⟩ := h.msg _ (List.getElem_mem hk)
    have A0 := fun (τ : List Ob) (g : τ[0]? = some (.box ((refL n ls cuts).map .d))) => alive_of g (by simp)
    have l0 : ∀ (τ : List Ob), τ[0]? = some (.box ((refL n ls cuts).map .d)) → loadF Try.prog 68 τ (.ptr 0 0 1) = some (.d (.lst 34 ls)) := fun τ g => load_box g rfl (by simp only [W16]) (by simp only [W16])
    have x1 : ∀ σ, indexAddrF Try.prog 68 σ (.d (.lst 34 ls)) (.d (.int .i64 (k : Int))) = some (.ipt cs) := fun σ => index_lst (P := Try.prog) (t := 68) (e := 42) (by simp only [W16]) (by simp only [W16]) (by rw [List.getElem?_eq_getElem hk, he]) h34
    have x2 : ∀ σ, loadF Try.prog 42 σ (.ipt cs) = some (.d (.agg cs)) := fun σ => by
      simp only [loadF, takeD, W16, if_true, h34, Nat.le_refl, Nat.reduceLT, and_self]
      rw [List.take_of_length_le (by omega)]
    obtain ⟨σ2, hσ2⟩ : ∃ σ2, σ2 = s ++ [Ob.box z42] := ⟨_, rfl⟩
    have al2 : allocE Try.prog 42 s = some (.ptr 2 0 0, σ2) := by rw [hσ2]; simp only [allocE, W16, gl]; rfl
    have b2 : σ2[2]? = some (.box z42) := by rw [hσ2, List.getElem?_append_right (by omega), gl]; rfl
    have b0 : σ2[0]? = some (.box ((refL n ls cuts).map .d)) := by rw [hσ2]; exact app_get g0 _
    have b1 : σ2[1]? = some (.box z42) := by rw [hσ2]; exact app_get g1 _
    have st2 := store_aggd (P := Try.prog) (t := 42) (k := 0) b2 hone (by simp [h34]; decide) (by simp [h34, W16]) (by simp [W16])
    rw [setAt_all (by simp [h34]; decide)] at st2
    have a22 := alive_of b2 (by simp)
    obtain ⟨σ3, hσ3⟩ : ∃ σ3, σ3 = σ2.set 2 (.box (cs.map .d)) := ⟨_, rfl⟩
    rw [← hσ3] at st2
    have e0 : σ3[0]? = some (.box ((refL n ls cuts).map .d)) := by rw [hσ3]; exact set_get b0 (by omega) _
    have e1 : σ3[1]? = some (.box z42) := by rw [hσ3]; exact set_get b1 (by omega) _
    have e2 : σ3[2]? = some (.box (cs.map .d)) := by rw [hσ3]; exact set_at b2 _
    have gl2 : σ2.length = 3 := by rw [hσ2]; simp [gl]
    have gl3 : σ3.length = 3 := by rw [hσ3]; simp [gl2]
    obtain ⟨σ4, p1, σ5, p2, σ6, hσ4, ap1, ap2, r1, r2, r4, r3⟩ := app_two σ3 (ls.take k) (ls.drop (k + 1)) (by simp; omega) (by simp; omega)
    obtain ⟨m40, m50, m60⟩ := r3 0 _ e0
    obtain ⟨m41, m51, m61⟩ := r3 1 _ e1
    obtain ⟨m42, m52, m62⟩ := r3 2 _ e2
    have w1 : IntKind.i64.wrap ((k : Int) + 1) = ((k + 1 : Nat) : Int) := by rw [IntWalk.i64_in _ (by omega)]; rfl
    have s1 : ∀ σ, sliceF Try.prog 68 σ (.d (.lst 34 ls)) none (some (.d (.int .i64 (k : Int)))) none = some (.d (.lst 34 (ls.take k))) := fun σ => slcl_hi (P := Try.prog) (t := 68) (e := 42) (by simp only [W16]) (by simp only [W16]) (by decide) (by omega)
    have s2 : ∀ σ, sliceF Try.prog 68 σ (.d (.lst 34 ls)) (some (.d (.int .i64 ((k + 1 : Nat) : Int)))) none none = some (.d (.lst 34 (ls.drop (k + 1)))) := fun σ => slcl_lo (P := Try.prog) (t := 68) (e := 42) (by simp only [W16]) (by simp only [W16]) (by decide) (by omega)
    have bs : ∀ s, buildSliceF Try.prog 68 0 σ3 s [] = some (.sl 3 0 0, σ4) := fun s => by
      rw [hσ4, ← gl3]; simp only [buildSliceF, W16, inOrder, toDs]; rfl
    rw [gl3] at ap1
    have tl : (ls.take k).length = k := by simp; omega
    have dl : (ls.drop (k + 1)).length = ls.length - (k + 1) := by simp
    have a4 : alive σ6 p2 = true := alive_of r1 (by simp)
    have st6 := store_box (P := Try.prog) (t := 68) (k := 1) (x := .sl p2 0 ((ls.take k).length + (ls.drop (k + 1)).length)) m60 (one_sl a4) (by simp [refL]) (by simp only [W16])
    obtain ⟨σ7, hσ7⟩ : ∃ σ7, σ7 = σ6.set 0 (.box (((refL n ls cuts).map V.d).set 1 (.sl p2 0 ((ls.take k).length + (ls.drop (k + 1)).length)))) := ⟨_, rfl⟩
    rw [← hσ7] at st6
    have y1 : σ7[1]? = some (.box z42) := by rw [hσ7]; exact set_get m61 (by omega) _
    have y2 : σ7[2]? = some (.box (cs.map .d)) := by rw [hσ7]; exact set_get m62 (by omega) _
    have y0 : σ7[0]? = some (.box [.d (.int .i64 n), .sl p2 0 ((ls.take k).length + (ls.drop (k + 1)).length), .d (.lst 1 (cuts.map cutE))]) := by rw [hσ7, set_at m60]; rfl
    have yp : σ7[p2]? = some (.arr 34 false (ls.take k ++ ls.drop (k + 1))) := by rw [hσ7]; exact set_get r1 (by omega) _
    have l7 := load_all (P := Try.prog) (t := 42) y2 (by simp [h34, W16]) (by simp only [W16]) (by simp only [W16]; decide)
    have st7 := store_agg (P := Try.prog) (t := 42) (k := 0) (xs := cs.map .d) y1 (one_map hone) (by simp [h34]; decide) (by simp [h34, W16]) (by simp [W16])
    rw [setAt_all (by simp [h34]; decide)] at st7
    have ay2 := alive_of y2 (by simp)
    have ay1 := alive_of y1 (by simp)
    simp only [eA, ↓RP, RS, Int.reduceBEq, Int.reduceBNe, Int.reduceLT, Int.reduceLE, Int.reduceAdd, Int.reduceSub, ↓reduceIte, Nat.reduceAdd, Nat.reduceMul, Nat.reduceSub, Nat.reduceLT, Nat.reduceLeDiff, Nat.reduceEqDiff, decide_true, decide_false, fieldAddrF, undE, tupE, W16, d0', d1, A0 _ g0, l0 _ g0, x1, x2, al2, st2, a22, A0 _ e0, l0 _ e0, w1, s1, s2, bs, List.toList_toArray]
    simp only [chkC, wantC, ↓RP, RS, Int.reduceBEq, Int.reduceBNe, Int.reduceLT, Int.reduceLE, Int.reduceAdd, Int.reduceSub, ↓reduceIte, Nat.reduceAdd, Nat.reduceMul, Nat.reduceSub, Nat.reduceLT, Nat.reduceLeDiff, Nat.reduceEqDiff, decide_true, decide_false, fieldAddrF, undE, tupE, W16, A0 _ m40, l0 _ m40, s1, s2, w1, ap1, A0 _ m50, l0 _ m50, ap2, A0 _ m60, l0 _ m60, st6, l7, st7, ay1, ay2]
    have lf := load_all (P := Try.prog) (t := 42) (set_at y1 (.box (cs.map .d))) (by simp [h34, W16]) (by simp only [W16]) (by simp only [W16]; decide)
    have z0 := set_get y0 (o' := 1) (by omega) (.box (cs.map .d))
    have zp := set_get yp (o' := 1) (by omega) (.box (cs.map .d))
    have f1 : Fin 1 (.tup [.agg (cs.map .d), .d (.bool true)]) (σ7.set 1 (.box (cs.map .d))) (.tup [.d (.agg cs), .d (.bool true)]) (σ7.set 1 (.box (cs.map .d))) := Fin.le (VLe_tup ⟨_, _, rfl, VLe.agg cs, VLes.refl _⟩)
    have hz : frzVs p2 34 (ls.take k ++ ls.drop (k + 1)) [.d (.int .i64 n), .sl p2 0 ((ls.take k).length + (ls.drop (k + 1)).length), .d (.lst 1 (cuts.map cutE))] = (refL n (ls.eraseIdx k) cuts).map .d := by
      simp only [frzVs, frzV, if_true, Nat.zero_add, List.drop_zero, refL, List.map_cons, List.map_nil, List.length_append, Nat.le_refl]
      rw [List.take_of_length_le (by simp), erase_eq]
    have f2 : Fin 1 (.tup [.d (.agg cs), .d (.bool true)]) (σ7.set 1 (.box (cs.map .d))) (.tup [.d (.agg cs), .d (.bool true)]) [.box ((refL n (ls.eraseIdx k) cuts).map .d)] := Fin.frz1 z0 zp hz (by omega) rfl rfl
    refine hK.fin (r := .tup [.agg (cs.map .d), .d (.bool true)]) (by simp only [resF, resAll, resOne, e16, RS, lf]) (f1.trans f2) ⟨_, rfl, ?_, rfl⟩
    · rw [List.getD_eq_getElem?_getD, List.getElem?_eq_getElem hk, he]; rfl
end
end Go.Proofs.Ytadddaafajennaa.Am
