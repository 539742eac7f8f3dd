/- A message is the same as itself: items, messages. Printed by program (genR.py). -/
import Derived.Test.YtadddaafajennaaRa
set_option linter.unusedSimpArgs false
set_option linter.unusedVariables false
set_option maxRecDepth 10000
set_option maxHeartbeats 4000000
namespace Go.Proofs.Ytadddaafajennaa.Am
open Go Go.Proofs

def EntS (e : D) : Prop := ∃ es to wr to', e = .agg es ∧ Knd kE es ∧ es[11]? = some (.lst 1 to) ∧ es[17]? = some (.lst 5 wr) ∧ es[44]? = some (.lst 1 to') ∧ StrL to ∧ WrapL wr ∧ StrL to' ∧ to.length ≤ 1048576 ∧ wr.length ≤ 1048576 ∧ to'.length ≤ 1048576
def MsgS (ms : List D) : Prop := Knd kM ms ∧ ∃ ents lk, ms[10]? = some (.lst 50 ents) ∧ ms[33]? = some (.lst 1 lk) ∧ StrL lk ∧ (∀ e ∈ ents, EntS e) ∧ ents.length ≤ 1048576 ∧ lk.length ≤ 1048576

theorem take_get {α : Type} {l : List α} {k n j : Nat} {x : α} (h : l[k + j]? = some x) (hj : j < n) : ((l.drop k).take n)[j]? = some x := by
  rw [List.getElem?_take, if_pos hj, List.getElem?_drop, h]
theorem store_agv {P : Program} {t : TypeId} {σ : List Ob} {o : Nat} {ms : List D} {zs : List V} (h : σ[o]? = some (.box zs)) (k n : Nat) (hz : szOf P t = n) (hn : 0 < n) (hk : k + n ≤ ms.length) (hl : zs.length = n) (ho : ms.all one1 = true) : storeF P t σ (.ptr o 0 0) (agv ms k n) = some (σ.set o (.box (((ms.drop k).take n).map .d))) := by
  have h1 : ((ms.drop k).take n).length = n := by simp; omega
  have h2 : ((ms.drop k).take n).all one1 = true := by
    rw [List.all_eq_true] at ho ⊢
    intro x hx
    exact ho x (List.mem_of_mem_drop (List.mem_of_mem_take hx))
  rw [agv_eq', store_agg h (one_map h2) (by simp; omega) (by simp [hz]; omega) (by omega)]
  rw [setAt_all (by simp; omega)]
theorem Knd.one : ∀ {ks : List (Option SK)} {ds : List D}, Knd ks ds → ds.all one1 = true
  | [], ds, h => by simp only [Knd] at h; subst h; rfl
  | some .int :: r, ds, h => by simp only [Knd] at h; obtain ⟨k, n, t, rfl, h⟩ := h; simp [Knd.one h, one1]
  | some .str :: r, ds, h => by simp only [Knd] at h; obtain ⟨s, t, rfl, h⟩ := h; simp [Knd.one h, one1]
  | some .bool :: r, ds, h => by simp only [Knd] at h; obtain ⟨s, t, rfl, h⟩ := h; simp [Knd.one h, one1]
  | none :: r, ds, h => by simp only [Knd] at h; obtain ⟨sz, es, t, rfl, h⟩ := h; simp [Knd.one h, one1]

theorem same48v (it to wr : List D) (hk : Knd kItem it) (h9 : it[10]? = some (.lst 1 to)) (h15 : it[16]? = some (.lst 5 wr)) (hto : StrL to) (hwr : WrapL wr) (hB : to.length ≤ 1048576) (hB' : wr.length ≤ 1048576) (τ : List Ob) :
    callA Try.prog 48 [agv it 1 20, agv it 1 20] τ fun r σ' => r = .d (.bool true) ∧ σ' = τ := by
  rw [agv_eq']
  refine callA_le (ys := [.d (.agg ((it.drop 1).take 20)), .d (.agg ((it.drop 1).take 20))]) ⟨_, _, rfl, VLe.agg _, _, _, rfl, VLe.agg _, rfl⟩ ?_
  exact same48 _ to wr ((hk.drop 1).take 20) (take_get h9 (by omega)) (take_get h15 (by omega)) hto hwr hB hB' τ


def kDec : List (Option SK) := [some .int, some .int, some .int, some .str, some .str, some .str, none, some .int, some .int, some .int, some .int, some .int]
def kBatch : List (Option SK) := [some .int, some .int, some .str, some .int, some .int, some .int, some .int, none]
theorem items43 (it to wr to2 : List D) (hk : Knd kItem it) (h9 : it[10]? = some (.lst 1 to)) (h15 : it[16]? = some (.lst 5 wr)) (h43 : it[43]? = some (.lst 1 to2)) (hto : StrL to) (hwr : WrapL wr) (hto2 : StrL to2) (hB : to.length ≤ 1048576) (hB' : wr.length ≤ 1048576) (hB2 : to2.length ≤ 1048576) (τ : List Ob) :
    callA Try.prog 43 [.d (.agg it), .d (.agg it)] τ fun r σ' => r = .d (.bool true) ∧ σ' = τ := by
  refine callA_val ?_ τ rfl
  refine callA_le (ys := [.agg (it.map .d), .agg (it.map .d)]) ⟨_, _, rfl, VLe.agg' it, _, _, rfl, VLe.agg' it, rfl⟩ ?_
  refine w43.go fun K hK => ?_
  have hlen : it.length = 49 := hk.length
  have hone := hk.one
  obtain ⟨dv, hdv⟩ : ∃ dv, dv = (it.drop 37).take 12 := ⟨_, rfl⟩
  have hd : Knd kDec dv := by rw [hdv]; exact (hk.drop 37).take 12
  have h6 : dv[6]? = some (.lst 1 to2) := by rw [hdv]; exact take_get h43 (by omega)
  have hlen' : dv.length = 12 := hd.length
  have st := fun (σ : List Ob) (o : Nat) (h : σ[o]? = some (.box z92)) => store_agv (P := Try.prog) (t := 92) (ms := it) h 37 12 (by simp only [W43]) (by omega) (by omega) rfl hone
  rw [← hdv] at st
  have al := fun (σ : List Ob) => (by simp only [allocE, W43]; rfl : allocE Try.prog 92 σ = some (.ptr σ.length 0 0, σ ++ [.box z92]))
  obtain ⟨B, hBx⟩ : ∃ B, B = Ob.box (it.map .d) := ⟨_, rfl⟩
  obtain ⟨E, hE⟩ : ∃ E, E = Ob.box (dv.map .d) := ⟨_, rfl⟩
  simp only [e43, c43, p43, Try.f43, codeOf, comp, opsOf, stOf, cop, cstp, copAt, planFor, List.find?, List.find?_nil, Option.map_none, Option.getD_none, List.any_cons, List.any_nil, Stp.idx, Bool.or_false, Nat.reduceBEq, lapp_cons, lapp_nil, ↓RP, RS, Int.reduceBEq, Int.reduceBNe, Int.reduceLT, Int.reduceLE, Int.reduceAdd, Int.reduceSub, ↓reduceIte, Nat.reduceAdd, Nat.reduceMul, Nat.reduceSub, Nat.reduceLT, Nat.reduceLeDiff, Nat.reduceEqDiff, decide_true, decide_false, fieldAddrF, undE, tupE, W43, boxE, cellsV]
  simp only [← hBx, ← hE] at st ⊢
  have u1 := agv_load (P := Try.prog) (t := 86) (σ := [B, B]) (o := 0) (by rw [hBx]; rfl) 1 20 (by simp only [W43]) (by omega) (by omega) (by simp only [W43])
  have u2 := agv_load (P := Try.prog) (t := 86) (σ := [B, B]) (o := 1) (by rw [hBx]; rfl) 1 20 (by simp only [W43]) (by omega) (by omega) (by simp only [W43])
  have u3 := agv_load (P := Try.prog) (t := 92) (σ := [B, B]) (o := 0) (by rw [hBx]; rfl) 37 12 (by simp only [W43]) (by omega) (by omega) (by simp only [W43])
  have u4 := agv_load (P := Try.prog) (t := 92) (σ := [B, B, E]) (o := 1) (by rw [hBx]; rfl) 37 12 (by simp only [W43]) (by omega) (by omega) (by simp only [W43])
  have S1 : storeF Try.prog 92 [B, B, .box z92] (.ptr 2 0 0) (agv it 37 12) = some [B, B, E] := st _ _ rfl
  have S2 : storeF Try.prog 92 [B, B, E, .box z92] (.ptr 3 0 0) (agv it 37 12) = some [B, B, E, E] := st _ _ rfl
  have b0 : [B, B, E, E][0]? = some (.box (it.map .d)) := by rw [hBx]; rfl
  have b1 : [B, B, E, E][1]? = some (.box (it.map .d)) := by rw [hBx]; rfl
  have b2 : [B, B, E, E][2]? = some (.box (dv.map .d)) := by rw [hE]; rfl
  have b3 : [B, B, E, E][3]? = some (.box (dv.map .d)) := by rw [hE]; rfl
  have A0 : alive [B, B] 0 = true := by rw [hBx]; rfl
  have A1 : alive [B, B] 1 = true := by rw [hBx]; rfl
  have A2 : alive [B, B, E] 1 = true := by rw [hBx]; rfl
  have a0 := alive_of b0 (by simp)
  have a1 := alive_of b1 (by simp)
  have a2 := alive_of b2 (by simp)
  have a3 := alive_of b3 (by simp)
  have a4 : alive [B, B, .box z92] 2 = true := rfl
  have a5 : alive [B, B, E, .box z92] 3 = true := rfl
  obtain ⟨g0, s0⟩ := hk.scal 0 rfl
  have Y0 := scal_eq s0 Try.prog 3
  have l0_0 := cel_load (P := Try.prog) (t := 3) b0 0 g0 (by simp only [W43]) (by simp only [W43])
  have l0_1 := cel_load (P := Try.prog) (t := 3) b1 0 g0 (by simp only [W43]) (by simp only [W43])
  have a21 := agv_same (P := Try.prog) (t := 88) hk 21 9 kClaim rfl F88.1 F88.2 (by simp only [W43])
  have q21_0 := agv_load (P := Try.prog) (t := 88) b0 21 9 (by simp only [W43]) (by omega) (by omega) (by simp only [W43])
  have q21_1 := agv_load (P := Try.prog) (t := 88) b1 21 9 (by simp only [W43]) (by omega) (by omega) (by simp only [W43])
  have a30 := agv_same (P := Try.prog) (t := 90) hk 30 7 kBallot rfl F90.1 F90.2 (by simp only [W43])
  have q30_0 := agv_load (P := Try.prog) (t := 90) b0 30 7 (by simp only [W43]) (by omega) (by omega) (by simp only [W43])
  have q30_1 := agv_load (P := Try.prog) (t := 90) b1 30 7 (by simp only [W43]) (by omega) (by omega) (by simp only [W43])
  obtain ⟨gd0, sd0⟩ := hd.scal 0 rfl
  have Yd0 := scal_eq sd0 Try.prog 3
  have ld0_2 := cel_load (P := Try.prog) (t := 3) b2 0 gd0 (by simp only [W43]) (by simp only [W43])
  have ld0_3 := cel_load (P := Try.prog) (t := 3) b3 0 gd0 (by simp only [W43]) (by simp only [W43])
  obtain ⟨gd1, sd1⟩ := hd.scal 1 rfl
  have Yd1 := scal_eq sd1 Try.prog 3
  have ld1_2 := cel_load (P := Try.prog) (t := 3) b2 1 gd1 (by simp only [W43]) (by simp only [W43])
  have ld1_3 := cel_load (P := Try.prog) (t := 3) b3 1 gd1 (by simp only [W43]) (by simp only [W43])
  obtain ⟨gd2, sd2⟩ := hd.scal 2 rfl
  have Yd2 := scal_eq sd2 Try.prog 3
  have ld2_2 := cel_load (P := Try.prog) (t := 3) b2 2 gd2 (by simp only [W43]) (by simp only [W43])
  have ld2_3 := cel_load (P := Try.prog) (t := 3) b3 2 gd2 (by simp only [W43]) (by simp only [W43])
  obtain ⟨gd3, sd3⟩ := hd.scal 3 rfl
  have Yd3 := scal_eq sd3 Try.prog 9
  have ld3_2 := cel_load (P := Try.prog) (t := 9) b2 3 gd3 (by simp only [W43]) (by simp only [W43])
  have ld3_3 := cel_load (P := Try.prog) (t := 9) b3 3 gd3 (by simp only [W43]) (by simp only [W43])
  obtain ⟨gd4, sd4⟩ := hd.scal 4 rfl
  have Yd4 := scal_eq sd4 Try.prog 9
  have ld4_2 := cel_load (P := Try.prog) (t := 9) b2 4 gd4 (by simp only [W43]) (by simp only [W43])
  have ld4_3 := cel_load (P := Try.prog) (t := 9) b3 4 gd4 (by simp only [W43]) (by simp only [W43])
  obtain ⟨gd5, sd5⟩ := hd.scal 5 rfl
  have Yd5 := scal_eq sd5 Try.prog 9
  have ld5_2 := cel_load (P := Try.prog) (t := 9) b2 5 gd5 (by simp only [W43]) (by simp only [W43])
  have ld5_3 := cel_load (P := Try.prog) (t := 9) b3 5 gd5 (by simp only [W43]) (by simp only [W43])
  obtain ⟨gd7, sd7⟩ := hd.scal 7 rfl
  have Yd7 := scal_eq sd7 Try.prog 3
  have ld7_2 := cel_load (P := Try.prog) (t := 3) b2 7 gd7 (by simp only [W43]) (by simp only [W43])
  have ld7_3 := cel_load (P := Try.prog) (t := 3) b3 7 gd7 (by simp only [W43]) (by simp only [W43])
  obtain ⟨gd8, sd8⟩ := hd.scal 8 rfl
  have Yd8 := scal_eq sd8 Try.prog 3
  have ld8_2 := cel_load (P := Try.prog) (t := 3) b2 8 gd8 (by simp only [W43]) (by simp only [W43])
  have ld8_3 := cel_load (P := Try.prog) (t := 3) b3 8 gd8 (by simp only [W43]) (by simp only [W43])
  obtain ⟨gd9, sd9⟩ := hd.scal 9 rfl
  have Yd9 := scal_eq sd9 Try.prog 3
  have ld9_2 := cel_load (P := Try.prog) (t := 3) b2 9 gd9 (by simp only [W43]) (by simp only [W43])
  have ld9_3 := cel_load (P := Try.prog) (t := 3) b3 9 gd9 (by simp only [W43]) (by simp only [W43])
  have ad10 := agv_same (P := Try.prog) (t := 30) hd 10 2 kRng rfl F30.1 F30.2 (by simp only [W43])
  have qd10_2 := agv_load (P := Try.prog) (t := 30) b2 10 2 (by simp only [W43]) (by omega) (by omega) (by simp only [W43])
  have qd10_3 := agv_load (P := Try.prog) (t := 30) b3 10 2 (by simp only [W43]) (by omega) (by omega) (by simp only [W43])
  have ld6_2 := load_box (P := Try.prog) (t := 38) (k := 6) b2 (d_get h6) (by simp only [W43]) (by simp only [W43])
  have ld6_3 := load_box (P := Try.prog) (t := 38) (k := 6) b3 (d_get h6) (by simp only [W43]) (by simp only [W43])
  simp only [↓RP, RS, Int.reduceBEq, Int.reduceBNe, Int.reduceLT, Int.reduceLE, Int.reduceAdd, Int.reduceSub, ↓reduceIte, Nat.reduceAdd, Nat.reduceMul, Nat.reduceSub, Nat.reduceLT, Nat.reduceLeDiff, Nat.reduceEqDiff, decide_true, decide_false, fieldAddrF, undE, tupE, W43, A0, A1, u1, u2]
  refine CallK_use' (same48v it to wr hk h9 h15 hto hwr hB hB' _) fun v s ⟨q1, q2⟩ => ?_
  subst q1; subst q2
  simp only [↓RP, RS, Int.reduceBEq, Int.reduceBNe, Int.reduceLT, Int.reduceLE, Int.reduceAdd, Int.reduceSub, ↓reduceIte, Nat.reduceAdd, Nat.reduceMul, Nat.reduceSub, Nat.reduceLT, Nat.reduceLeDiff, Nat.reduceEqDiff, decide_true, decide_false, fieldAddrF, undE, tupE, W43, A0, A1, A2, a0, a1, a2, a3, a4, a5, u3, u4, al, S1, S2, ld6_2, ld6_3]
  refine CallK_use' (strings44 to2 hto2 hB2 _) fun v s ⟨q1, q2⟩ => ?_
  subst q1; subst q2
  simp only [↓RP, RS, Int.reduceBEq, Int.reduceBNe, Int.reduceLT, Int.reduceLE, Int.reduceAdd, Int.reduceSub, ↓reduceIte, Nat.reduceAdd, Nat.reduceMul, Nat.reduceSub, Nat.reduceLT, Nat.reduceLeDiff, Nat.reduceEqDiff, decide_true, decide_false, fieldAddrF, undE, tupE, W43, a0, a1, a2, a3, Y0, l0_0, l0_1, a21, q21_0, q21_1, a30, q30_0, q30_1, Yd0, ld0_2, ld0_3, Yd1, ld1_2, ld1_3, Yd2, ld2_2, ld2_3, Yd3, ld3_2, ld3_3, Yd4, ld4_2, ld4_3, Yd5, ld5_2, ld5_3, Yd7, ld7_2, ld7_3, Yd8, ld8_2, ld8_3, Yd9, ld9_2, ld9_3, ad10, qd10_2, qd10_3, ld6_2, ld6_3]
  exact hK.fin (by rfl) (Fin.drop0 _ _) ⟨rfl, rfl⟩


theorem same23 (ms : List D) (hm : MsgS ms) (τ : List Ob) :
    callA Try.prog 23 [.d (.agg ms), .d (.agg ms)] τ fun r σ' => r = .d (.bool true) ∧ σ' = τ := by
  refine callA_val ?_ τ rfl
  refine callA_le (ys := [.agg (ms.map .d), .agg (ms.map .d)]) ⟨_, _, rfl, VLe.agg' ms, _, _, rfl, VLe.agg' ms, rfl⟩ ?_
  refine w23.go fun K hK => ?_
  obtain ⟨hk, ents, lk, h10, h33, hlk, hents, hB, hB2⟩ := hm
  have hlen : ms.length = 34 := hk.length
  have hone := hk.one
  obtain ⟨bt, hbt⟩ : ∃ bt, bt = (ms.drop 3).take 8 := ⟨_, rfl⟩
  have hd : Knd kBatch bt := by rw [hbt]; exact (hk.drop 3).take 8
  have h7 : bt[7]? = some (.lst 50 ents) := by rw [hbt]; exact take_get h10 (by omega)
  have hlen' : bt.length = 8 := hd.length
  have st := fun (σ : List Ob) (o : Nat) (h : σ[o]? = some (.box z35)) => store_agv (P := Try.prog) (t := 35) (ms := ms) h 3 8 (by simp only [W23]) (by omega) (by omega) rfl hone
  rw [← hbt] at st
  have al := fun (σ : List Ob) => (by simp only [allocE, W23]; rfl : allocE Try.prog 35 σ = some (.ptr σ.length 0 0, σ ++ [.box z35]))
  have en : ∀ n : Int, (n != n) = false := by simp
  obtain ⟨B, hBx⟩ : ∃ B, B = Ob.box (ms.map .d) := ⟨_, rfl⟩
  obtain ⟨E, hE⟩ : ∃ E, E = Ob.box (bt.map .d) := ⟨_, rfl⟩
  simp only [e23, c23, p23, Try.f23, codeOf, comp, opsOf, stOf, cop, cstp, copAt, planFor, List.find?, List.find?_nil, Option.map_none, Option.getD_none, List.any_cons, List.any_nil, Stp.idx, Bool.or_false, Nat.reduceBEq, lapp_cons, lapp_nil, ↓RP, RS, Int.reduceBEq, Int.reduceBNe, Int.reduceLT, Int.reduceLE, Int.reduceAdd, Int.reduceSub, ↓reduceIte, Nat.reduceAdd, Nat.reduceMul, Nat.reduceSub, Nat.reduceLT, Nat.reduceLeDiff, Nat.reduceEqDiff, decide_true, decide_false, fieldAddrF, undE, tupE, W23, boxE, cellsV]
  simp only [← hBx, ← hE] at st ⊢
  have u3 := agv_load (P := Try.prog) (t := 35) (σ := [B, B]) (o := 0) (by rw [hBx]; rfl) 3 8 (by simp only [W23]) (by omega) (by omega) (by simp only [W23])
  have u4 := agv_load (P := Try.prog) (t := 35) (σ := [B, B, E]) (o := 1) (by rw [hBx]; rfl) 3 8 (by simp only [W23]) (by omega) (by omega) (by simp only [W23])
  have S1 : storeF Try.prog 35 [B, B, .box z35] (.ptr 2 0 0) (agv ms 3 8) = some [B, B, E] := st _ _ rfl
  have S2 : storeF Try.prog 35 [B, B, E, .box z35] (.ptr 3 0 0) (agv ms 3 8) = some [B, B, E, E] := st _ _ rfl
  have b0 : [B, B, E, E][0]? = some (.box (ms.map .d)) := by rw [hBx]; rfl
  have b1 : [B, B, E, E][1]? = some (.box (ms.map .d)) := by rw [hBx]; rfl
  have b2 : [B, B, E, E][2]? = some (.box (bt.map .d)) := by rw [hE]; rfl
  have b3 : [B, B, E, E][3]? = some (.box (bt.map .d)) := by rw [hE]; rfl
  have A0 : alive [B, B] 0 = true := by rw [hBx]; rfl
  have A1 : alive [B, B] 1 = true := by rw [hBx]; rfl
  have A2 : alive [B, B, E] 1 = true := by rw [hBx]; rfl
  have a0 := alive_of b0 (by simp)
  have a1 := alive_of b1 (by simp)
  have a2 := alive_of b2 (by simp)
  have a3 := alive_of b3 (by simp)
  have a4 : alive [B, B, .box z35] 2 = true := rfl
  have a5 : alive [B, B, E, .box z35] 3 = true := rfl
  obtain ⟨g0, s0⟩ := hk.scal 0 rfl
  have Y0 := scal_eq s0 Try.prog 3
  have l0_0 := cel_load (P := Try.prog) (t := 3) b0 0 g0 (by simp only [W23]) (by simp only [W23])
  have l0_1 := cel_load (P := Try.prog) (t := 3) b1 0 g0 (by simp only [W23]) (by simp only [W23])
  obtain ⟨g1, s1⟩ := hk.scal 1 rfl
  have Y1 := scal_eq s1 Try.prog 3
  have l1_0 := cel_load (P := Try.prog) (t := 3) b0 1 g1 (by simp only [W23]) (by simp only [W23])
  have l1_1 := cel_load (P := Try.prog) (t := 3) b1 1 g1 (by simp only [W23]) (by simp only [W23])
  obtain ⟨g2, s2⟩ := hk.scal 2 rfl
  have Y2 := scal_eq s2 Try.prog 3
  have l2_0 := cel_load (P := Try.prog) (t := 3) b0 2 g2 (by simp only [W23]) (by simp only [W23])
  have l2_1 := cel_load (P := Try.prog) (t := 3) b1 2 g2 (by simp only [W23]) (by simp only [W23])
  obtain ⟨g32, s32⟩ := hk.scal 32 rfl
  have Y32 := scal_eq s32 Try.prog 9
  have l32_0 := cel_load (P := Try.prog) (t := 9) b0 32 g32 (by simp only [W23]) (by simp only [W23])
  have l32_1 := cel_load (P := Try.prog) (t := 9) b1 32 g32 (by simp only [W23]) (by simp only [W23])
  have a11 := agv_same (P := Try.prog) (t := 37) hk 11 9 kRec rfl F37.1 F37.2 (by simp only [W23])
  have q11_0 := agv_load (P := Try.prog) (t := 37) b0 11 9 (by simp only [W23]) (by omega) (by omega) (by simp only [W23])
  have q11_1 := agv_load (P := Try.prog) (t := 37) b1 11 9 (by simp only [W23]) (by omega) (by omega) (by simp only [W23])
  have a20 := agv_same (P := Try.prog) (t := 32) hk 20 6 kHead rfl F32.1 F32.2 (by simp only [W23])
  have q20_0 := agv_load (P := Try.prog) (t := 32) b0 20 6 (by simp only [W23]) (by omega) (by omega) (by simp only [W23])
  have q20_1 := agv_load (P := Try.prog) (t := 32) b1 20 6 (by simp only [W23]) (by omega) (by omega) (by simp only [W23])
  have a26 := agv_same (P := Try.prog) (t := 32) hk 26 6 kHead rfl F32.1 F32.2 (by simp only [W23])
  have q26_0 := agv_load (P := Try.prog) (t := 32) b0 26 6 (by simp only [W23]) (by omega) (by omega) (by simp only [W23])
  have q26_1 := agv_load (P := Try.prog) (t := 32) b1 26 6 (by simp only [W23]) (by omega) (by omega) (by simp only [W23])
  have l33_0 := load_box (P := Try.prog) (t := 38) (k := 33) b0 (d_get h33) (by simp only [W23]) (by simp only [W23])
  have l33_1 := load_box (P := Try.prog) (t := 38) (k := 33) b1 (d_get h33) (by simp only [W23]) (by simp only [W23])
  obtain ⟨gd6, sd6⟩ := hd.scal 6 rfl
  have Yd6 := scal_eq sd6 Try.prog 3
  have ld6_2 := cel_load (P := Try.prog) (t := 3) b2 6 gd6 (by simp only [W23]) (by simp only [W23])
  have ld6_3 := cel_load (P := Try.prog) (t := 3) b3 6 gd6 (by simp only [W23]) (by simp only [W23])
  have ad0 := agv_same (P := Try.prog) (t := 32) hd 0 6 kHead rfl F32.1 F32.2 (by simp only [W23])
  have qd0_2 := agv_load (P := Try.prog) (t := 32) b2 0 6 (by simp only [W23]) (by omega) (by omega) (by simp only [W23])
  have qd0_3 := agv_load (P := Try.prog) (t := 32) b3 0 6 (by simp only [W23]) (by omega) (by omega) (by simp only [W23])
  have ld7_2 := load_box (P := Try.prog) (t := 33) (k := 7) b2 (d_get h7) (by simp only [W23]) (by simp only [W23])
  have ld7_3 := load_box (P := Try.prog) (t := 33) (k := 7) b3 (d_get h7) (by simp only [W23]) (by simp only [W23])
  simp only [↓RP, RS, Int.reduceBEq, Int.reduceBNe, Int.reduceLT, Int.reduceLE, Int.reduceAdd, Int.reduceSub, ↓reduceIte, Nat.reduceAdd, Nat.reduceMul, Nat.reduceSub, Nat.reduceLT, Nat.reduceLeDiff, Nat.reduceEqDiff, decide_true, decide_false, fieldAddrF, undE, tupE, W23, A0, A1, A2, a0, a1, a2, a3, a4, a5, u3, u4, al, S1, S2, ld7_2, ld7_3, en]
  generalize hσ : [B, B, E, E] = σ at *
  refine Loop_k [2, 3, 4, 5, 6, 7] (fun k : Nat => fr 0 135 [(2, .ptr 0 0 0), (3, .ptr 1 0 0), (4, .d (.bool false)), (5, .ptr 2 0 0), (6, .ptr 3 0 0), (7, .d (.int .i64 k))]) (fun _ => σ) (fun k => k ≤ ents.length) (fun k => ents.length - k) 0 (by kernel_rfl) rfl (Nat.zero_le _) fun k hkk => ?_
  by_cases hlt : k < ents.length
  · have e3 : decide ((k : Int) < (ents.length : Int)) = true := by simpa using hlt
    obtain ⟨es, to, wr, to', he, ek, e11, e17, e44, t1, t2, t3, m1, m2, m3⟩ := hents _ (List.getElem_mem hlt)
    have e50 : es.length = 50 := ek.length
    have x1 : ∀ σ, indexAddrF Try.prog 33 σ (.d (.lst 50 ents)) (.d (.int .i64 (k : Int))) = some (.ipt es) := fun σ => index_lst (P := Try.prog) (t := 33) (e := 96) (by simp only [W23]) (by simp only [W23]) (by rw [List.getElem?_eq_getElem hlt, he]) e50
    have x2 : ∀ σ, loadF Try.prog 94 σ (.ipt (es.drop 1)) = some (.d (.agg (es.drop 1))) := fun σ => by
      simp only [loadF, takeD, W23, if_true, List.length_drop, e50, Nat.reduceSub, Nat.le_refl, Nat.reduceLT, and_self]
      rw [List.take_of_length_le (by simp [e50])]
    obtain ⟨g0', sc0⟩ := ek.scal 0 rfl
    have x3 : ∀ σ, loadF Try.prog 3 σ (.ipt es) = some (.d (cel es 0)) := fun σ => by
      have dd := drop_get g0'
      rw [List.drop_zero] at dd
      rcases sc0 with ⟨kk, n, e⟩ | ⟨s, e⟩
      · rw [e] at dd ⊢; rw [dd]; simp only [loadF, takeD, W23, Bool.false_eq_true, if_false, if_true]
      · rw [e] at dd ⊢; rw [dd]; simp only [loadF, takeD, W23, Bool.false_eq_true, if_false, if_true]
    have x4 := scal_ne sc0 Try.prog 3
    have w1 : IntKind.i64.wrap ((k : Int) + 1) = ((k + 1 : Nat) : Int) := by rw [IntWalk.i64_in _ (by omega)]; rfl
    simp only [fr, ↓RP, RS, Int.reduceBEq, Int.reduceBNe, Int.reduceLT, Int.reduceLE, Int.reduceAdd, Int.reduceSub, ↓reduceIte, Nat.reduceAdd, Nat.reduceMul, Nat.reduceSub, Nat.reduceLT, Nat.reduceLeDiff, Nat.reduceEqDiff, decide_true, decide_false, fieldAddrF, undE, tupE, W23, a0, a1, a2, a3, ld7_2, ld7_3, e3, x1, x2]
    refine CallK_use' (items43 (es.drop 1) to wr to' (ek.drop 1) (by rw [List.getElem?_drop]; exact e11) (by rw [List.getElem?_drop]; exact e17) (by rw [List.getElem?_drop]; exact e44) t1 t2 t3 m1 m2 m3 _) fun v s ⟨q1, q2⟩ => ?_
    subst q1; subst q2
    simp only [↓RP, RS, Int.reduceBEq, Int.reduceBNe, Int.reduceLT, Int.reduceLE, Int.reduceAdd, Int.reduceSub, ↓reduceIte, Nat.reduceAdd, Nat.reduceMul, Nat.reduceSub, Nat.reduceLT, Nat.reduceLeDiff, Nat.reduceEqDiff, decide_true, decide_false, fieldAddrF, undE, tupE, W23, a0, a1, a2, a3, ld7_2, ld7_3, x1, x2, x3, x4, w1]
    exact seqK_n ⟨k + 1, by omega, by omega, by kernel_rfl, rfl⟩
  have e3 : decide ((k : Int) < (ents.length : Int)) = false := by simpa using hlt
  simp only [fr, ↓RP, RS, Int.reduceBEq, Int.reduceBNe, Int.reduceLT, Int.reduceLE, Int.reduceAdd, Int.reduceSub, ↓reduceIte, Nat.reduceAdd, Nat.reduceMul, Nat.reduceSub, Nat.reduceLT, Nat.reduceLeDiff, Nat.reduceEqDiff, decide_true, decide_false, fieldAddrF, undE, tupE, W23, a0, a1, a2, a3, ld7_2, ld7_3, e3, l33_0, l33_1]
  refine CallK_use' (strings44 lk hlk hB2 _) fun v s ⟨q1, q2⟩ => ?_
  subst q1; subst q2
  simp only [↓RP, RS, Int.reduceBEq, Int.reduceBNe, Int.reduceLT, Int.reduceLE, Int.reduceAdd, Int.reduceSub, ↓reduceIte, Nat.reduceAdd, Nat.reduceMul, Nat.reduceSub, Nat.reduceLT, Nat.reduceLeDiff, Nat.reduceEqDiff, decide_true, decide_false, fieldAddrF, undE, tupE, W23, a0, a1, a2, a3, Y0, l0_0, l0_1, Y1, l1_0, l1_1, Y2, l2_0, l2_1, Y32, l32_0, l32_1, a11, q11_0, q11_1, a20, q20_0, q20_1, a26, q26_0, q26_1, l33_0, l33_1, Yd6, ld6_2, ld6_3, ad0, qd0_2, qd0_3, ld7_2, ld7_3]
  exact hK.fin (by rfl) (Fin.drop0 _ _) ⟨rfl, rfl⟩
end Go.Proofs.Ytadddaafajennaa.Am
