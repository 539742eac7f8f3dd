/- Walks: a message is removed from a queue. -/
import Derived.Test.YtadddaafajennaaNe
set_option linter.unusedSimpArgs false
set_option linter.unusedVariables false
set_option maxRecDepth 10000
namespace Go.Proofs.Ytadddaafajennaa.Am
open Go Go.Proofs

theorem rem41 {σ : List Ob} {o k q : Nat} {cs : List V} {ms : List D} (h1 : σ[o]? = some (.box cs)) (h2 : cs[k]? = some (.sl q 0 ms.length)) (h3 : ArrQ σ (some q) ms) (hq : q ≠ o) {i : Nat} (hi : i < ms.length) (hl : ms.length ≤ 1024) {m : List D} (hm : ms[i]? = some (.agg m)) (m34 : m.length = 34) (m1 : m.all one1 = true) :
    callA Try.prog 41 [.ptr o 0 k, .d (.int .i64 i)] σ (fun r σ' => r = .agg (m.map .d) ∧ σ'[o]? = some (.box (cs.set k (.sl q 0 (ms.length - 1)))) ∧ ArrQ σ' (some q) (ms.eraseIdx i) ∧ Keeps (fun p => p = o ∨ some q = some p) σ σ') := by
  refine w41.go fun K hK => ?_
  obtain ⟨junk, h3⟩ := h3
  have hk : k < cs.length := (List.getElem?_eq_some_iff.1 h2).1
  have ho := lt_of_get h1
  have hql := lt_of_get h3
  have hms : (ms ++ junk)[i]? = some (.agg m) := by rw [List.getElem?_append_left hi]; exact hm
  generalize hσ1 : σ ++ [Ob.box z42] = σ1
  have gl1 : σ1.length = σ.length + 1 := by rw [← hσ1]; simp
  have o1 : σ1[o]? = some (.box cs) := by rw [← hσ1]; exact app_get h1 _
  have q1 : σ1[q]? = some (.arr 34 false (ms ++ junk)) := by rw [← hσ1]; exact app_get h3 _
  have a1 := alive_of o1 (by simp)
  have b1 := alive_of q1 (by simp)
  have l1 := load_box (P := Try.prog) (t := 68) o1 h2 (by simp only [W41]) (by simp only [W41])
  have x1 := index_arr (P := Try.prog) (t := 68) (e := 42) (kd := .i64) (off := 0) (len := ms.length) q1 (by simp only [W41]) (by simp only [W41]) (by decide) hi
  rw [Nat.zero_add] at x1
  have l2 := load_elem (P := Try.prog) (t := 42) q1 hms m34 (by simp only [W41]) (by simp only [W41]) (by simp [W41])
  generalize hσ2 : σ1 ++ [Ob.box z42] = σ2
  have gl2 : σ2.length = σ.length + 2 := by rw [← hσ2]; simp [gl1]
  have n2 : σ2[σ1.length]? = some (.box z42) := by rw [← hσ2]; simp
  have st := store_aggd (P := Try.prog) (t := 42) (k := 0) n2 m1 (by simp [m34]; decide) (by simp [W41, m34]) (by simp [W41])
  rw [setAt_all (by simp [m34]; decide)] at st
  generalize hσ3 : σ2.set σ1.length (Ob.box (m.map .d)) = σ3 at st
  have gl3 : σ3.length = σ.length + 2 := by rw [← hσ3]; simp [gl2]
  have o3 : σ3[o]? = some (.box cs) := by rw [← hσ3]; exact set_get (by rw [← hσ2]; exact app_get o1 _) (by omega) _
  have q3 : σ3[q]? = some (.arr 34 false (ms ++ junk)) := by rw [← hσ3]; exact set_get (by rw [← hσ2]; exact app_get q1 _) (by omega) _
  have m3 : σ3[σ1.length]? = some (.box (m.map .d)) := by rw [← hσ3]; exact set_at n2 _
  have z3 : σ3[σ.length]? = some (.box z42) := by rw [← hσ3, List.getElem?_set_ne (by omega), ← hσ2, List.getElem?_append_left (by omega), ← hσ1]; simp
  have a3 := alive_of o3 (by simp)
  have b3 := alive_of q3 (by simp)
  have l3 := load_box (P := Try.prog) (t := 68) o3 h2 (by simp only [W41]) (by simp only [W41])
  have w1 : IntKind.i64.wrap ((i : Int) + 1) = ((i + 1 : Nat) : Int) := by rw [IntWalk.i64_in _ (by omega)]; rfl
  have kp3 : Keeps (fun p => p = o ∨ some q = some p) σ σ3 := by
    rw [← hσ3, ← hσ2, ← hσ1]
    refine ⟨by simp, fun p hp _ => ?_⟩
    rw [List.getElem?_set_ne (by simp; omega), List.getElem?_append_left (by simp; omega), List.getElem?_append_left hp]
  simp only [e41, c41, p41, Try.f41, codeOf, comp, opsOf, stOf, cop, cstp, copAt, planFor, List.find?, List.find?_nil, Option.map_none, Option.getD_none, List.any_cons, List.any_nil, Stp.idx, Bool.or_false, Nat.reduceBEq, ↓RP, RS, Int.reduceBEq, Int.reduceBNe, Int.reduceLT, Int.reduceLE, Int.reduceAdd, Int.reduceSub, ↓reduceIte, Nat.reduceAdd, Nat.reduceMul, Nat.reduceSub, Nat.reduceLT, Nat.reduceLeDiff, Nat.reduceEqDiff, decide_true, decide_false, fieldAddrF, undE, tupE, W41, allocE, hσ1, hσ2, a1, b1, l1, x1, l2, st, a3, b3, l3, w1]
  refine CallK_use' (callA_arr (del47 ms junk i hi (by omega)) q3) fun v σ' ⟨r0, σ0, ⟨e1, junk', e2⟩, e3, e4⟩ => ?_
  subst e1; subst e2
  rw [storeBack_arr] at e4
  obtain rfl : v = .sl q 0 (ms.length - 1) := e3
  subst e4
  generalize hσ4 : σ3.set q (Ob.arr 34 false (ms.eraseIdx i ++ junk')) = σ4
  have gl4 : σ4.length = σ.length + 2 := by rw [← hσ4]; simp [gl3]
  have o4 : σ4[o]? = some (.box cs) := by rw [← hσ4]; exact set_get o3 (fun e => hq e) _
  have q4 : σ4[q]? = some (.arr 34 false (ms.eraseIdx i ++ junk')) := by rw [← hσ4]; exact set_at q3 _
  have m4 : σ4[σ1.length]? = some (.box (m.map .d)) := by rw [← hσ4]; exact set_get m3 (by omega) _
  have z4 : σ4[σ.length]? = some (.box z42) := by rw [← hσ4]; exact set_get z3 (by omega) _
  have a4 := alive_of o4 (by simp)
  have st4 := store_box (P := Try.prog) (t := 68) (k := k) (x := .sl q 0 (ms.length - 1)) o4 (one_sl (alive_of q4 (by simp))) hk (by simp only [W41])
  generalize hσ5 : σ4.set o (Ob.box (cs.set k (.sl q 0 (ms.length - 1)))) = σ5 at st4
  have gl5 : σ5.length = σ.length + 2 := by rw [← hσ5]; simp [gl4]
  have m5 : σ5[σ1.length]? = some (.box (m.map .d)) := by rw [← hσ5]; exact set_get m4 (by omega) _
  have z5 : σ5[σ.length]? = some (.box z42) := by rw [← hσ5]; exact set_get z4 (by omega) _
  have l5 := load_all (P := Try.prog) (t := 42) m5 (by simp [m34, W41]) (by simp only [W41]) (by simp [W41])
  have st5 := store_agg (P := Try.prog) (t := 42) (k := 0) (xs := m.map .d) z5 (one_map m1) (by simp [m34]; decide) (by simp [m34, W41]) (by simp [W41])
  rw [setAt_all (by simp [m34]; decide)] at st5
  simp only [↓RP, RS, Int.reduceBEq, Int.reduceBNe, Int.reduceLT, Int.reduceLE, Int.reduceAdd, Int.reduceSub, ↓reduceIte, Nat.reduceAdd, Nat.reduceMul, Nat.reduceSub, Nat.reduceLT, Nat.reduceLeDiff, Nat.reduceEqDiff, decide_true, decide_false, fieldAddrF, undE, tupE, W41, a4, st4, l5, st5]
  refine hK.ret (r := .agg (m.map .d)) ?_ ⟨rfl, ?_, ⟨junk', ?_⟩, ?_⟩
  · have l6 := load_all (P := Try.prog) (t := 42) (set_at z5 (.box (m.map .d))) (by simp [m34, W41]) (by simp only [W41]) (by simp [W41])
    simp only [resF, resAll, resOne, e41, RS, l6]
  · rw [List.getElem?_set_ne (by omega), ← hσ5]; exact set_at o4 _
  · rw [List.getElem?_set_ne (by omega), ← hσ5]; exact set_get q4 (fun e => hq e.symm) _
  · have k4 : Keeps (fun p => p = o ∨ some q = some p) σ σ5 := by
      rw [← hσ5, ← hσ4]
      exact (kp3.trans (Keeps.set (S := fun p => p = o ∨ some q = some p) _ _ (.inr rfl)) (fun _ _ h => h)).trans (Keeps.set _ _ (.inl rfl)) (fun _ _ h => h)
    exact ⟨by simp; exact k4.1, fun p hp hs => by rw [List.getElem?_set_ne (by omega)]; exact k4.2 p hp hs⟩
end Go.Proofs.Ytadddaafajennaa.Am
