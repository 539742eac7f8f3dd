/- SHA-256: the walk of mix. -/
import Derived.Test.YteafabpedfgedaaGreatDoorZ17
set_option linter.unusedSimpArgs false
set_option linter.unusedVariables false
set_option maxRecDepth 10000
set_option maxHeartbeats 40000000
namespace Go.Proofs.YteafabpedfgedaaGreatDoor.Am
open Go Go.Proofs

def s8V (s : S8) : List V := [wV s.a, wV s.b, wV s.c, wV s.d, wV s.e, wV s.f, wV s.g, wV s.h]
def zero8 : List V := s8V ⟨0, 0, 0, 0, 0, 0, 0, 0⟩
theorem zeroW8 : zeroCs Tryz.prog 186 = some zero8 := by kernel_rfl
theorem s8_ren (g : Nat → Option Nat) (s : S8) : renV g (.agg (s8V s)) = .agg (s8V s) := rfl

theorem roundsS_snoc : ∀ (l : List (Nat × Nat)) (s : S8) (x : Nat × Nat), roundsS s (l ++ [x]) = roundS (roundsS s l) x.1 x.2
  | [], _, _ => rfl
  | (k, w) :: r, s, x => roundsS_snoc r (roundS s k w) x

theorem const_eq : g_agora_sum_constants = shaK.map fun n => D.int .u32 (n : Nat) := by kernel_rfl
theorem getG (s : List V) : get s (.global 1) = .ipt (shaK.map fun n => D.int .u32 (n : Nat)) := by
  rw [← const_eq]; rfl

theorem shaK_len : shaK.length = 64 := rfl
theorem drop_map (L : List Nat) (i : Nat) (h : i < L.length) : (L.map fun n => D.int .u32 (n : Nat)).drop i = D.int .u32 (L.getD i 0 : Nat) :: (L.map fun n => D.int .u32 (n : Nat)).drop (i + 1) := by
  rw [List.drop_eq_getElem_cons (by simpa using h), List.getElem_map, List.getD_eq_getElem?_getD, List.getElem?_eq_getElem h, Option.getD_some]
theorem at_K (L : List Nat) (i : Nat) (hi : i < 64) (σ : List Ob) : indexAddrF Tryz.prog 304 σ (.ipt (L.map fun n => D.int .u32 (n : Nat))) (.d (.int .i64 (i : Nat))) = some (.ipt ((L.map fun n => D.int .u32 (n : Nat)).drop i)) := by
  have h0 : (0 : Int) ≤ (i : Int) := Int.natCast_nonneg _
  have h1 : (i : Int) < ((64 : Nat) : Int) := by omega
  simp only [indexAddrF, T304, T185, if_true, Nat.lt_add_one, Int.toNat_natCast, Nat.mul_one]
  rw [if_pos ⟨h0, h1⟩]
theorem ld_K (L : List Nat) (i : Nat) (hi : i < L.length) (σ : List Ob) : loadF Tryz.prog 185 σ (.ipt ((L.map fun n => D.int .u32 (n : Nat)).drop i)) = some (.d (.int .u32 (L.getD i 0 : Nat))) := by
  rw [drop_map L i hi]
  simp only [loadF, takeD, T185, if_true]
  rfl
attribute [local irreducible] shaK
theorem BindV_of {P : Program} {n : Nat} {x : Option V} {d : Option Tmp} {l : List CStp} {kk : List Fr} {s : List V} {σ : List Ob} {K : Ex → List V → List Ob → Prop} {v : V} (h : x = some v) (hk : Rn P n l kk (putV s d v) σ K) : BindV P n x d l kk s σ K := by subst h; exact hk

theorem mix_ok (s : S8) (blk : List UInt8) (hb : blk.length = 64) (τ : List Ob) : callA Tryz.prog 92 [.agg (s8V s), .d (.str blk)] τ fun r σ' => r = .agg (s8V (mixL s blk)) ∧ σ' = τ := by
  refine callA_frozen ?_ τ rfl (s8_ren _ _)
  refine w92.go fun K hK => ?_
  generalize hW : extW 48 (wordsOf blk) = W
  have hwl : W.length = 64 := by rw [← hW, extW_length, wordsOf_length 16 blk (by omega)]
  have hc0 : cellsV [] (V.agg (s8V s)) = some (s8V s) := rfl
  have st0 : ∀ σ : List Ob, σ = [Ob.box (s8V s), Ob.box zero8, Ob.box (cW [])] → storeF Tryz.prog 304 σ (.ptr 2 0 0) (.agg (cW W)) = some [Ob.box (s8V s), Ob.box zero8, Ob.box (cW W)] := fun σ hσ => by
    subst hσ
    have ho : (cW W).all (one [Ob.box (s8V s), Ob.box zero8, Ob.box (cW [])]) = true := by
      rw [List.all_eq_true]
      intro x hx
      obtain ⟨n, _, rfl⟩ := List.mem_map.1 hx
      rfl
    have hcl : (cW W).length = 64 := cW_length (by omega)
    have := store_agg (P := Tryz.prog) (t := 304) (σ := [Ob.box (s8V s), Ob.box zero8, Ob.box (cW [])]) (o := 2) (k := 0) (cs := cW []) (xs := cW W) rfl ho (by rw [hcl, cW_length (by simp)]; omega) (by rw [hcl]; simp only [T304]) (by simp only [T304]; decide)
    rw [this]
    have e : setAt (cW []) 0 (cW W) = cW W := by
      simp only [setAt, List.take_zero, List.nil_append, Nat.zero_add]
      rw [List.drop_of_length_le (by rw [hcl, cW_length (by simp)]; exact Nat.le_refl 64), List.append_nil]
    rw [e]; rfl
  have rd : ∀ (i : Int) (j : Nat) (x : Nat), i = (j : Nat) → j < 8 → (s8V s)[j]? = some (wV x) → ∀ c : List V, indexAddrF Tryz.prog 186 [Ob.box (s8V s), Ob.box zero8, Ob.box c] (.ptr 0 0 0) (.d (.int .i64 i)) = some (.ptr 0 0 j) ∧ loadF Tryz.prog 185 [Ob.box (s8V s), Ob.box zero8, Ob.box c] (.ptr 0 0 j) = some (.d (.int .u32 (x : Nat))) := fun i j x hi hj hx c => by
    refine ⟨?_, load_box (σ := [Ob.box (s8V s), Ob.box zero8, Ob.box c]) (o := 0) rfl hx (by simp only [T185]) (by simp only [T185])⟩
    subst hi
    have h0 : (0 : Int) ≤ (j : Int) := Int.natCast_nonneg _
    have h1 : (j : Int) < ((8 : Nat) : Int) := by omega
    have ha : alive [Ob.box (s8V s), Ob.box zero8, Ob.box c] 0 = true := rfl
    simp only [indexAddrF, T186, T185, ha, and_self, if_true, Nat.lt_add_one, Int.toNat_natCast, Nat.mul_one, Nat.zero_add]
    rw [if_pos ⟨h0, h1⟩]
  have r0 := rd 0 0 s.a rfl (by omega) rfl
  have r1 := rd 1 1 s.b rfl (by omega) rfl
  have r2 := rd 2 2 s.c rfl (by omega) rfl
  have r3 := rd 3 3 s.d rfl (by omega) rfl
  have r4 := rd 4 4 s.e rfl (by omega) rfl
  have r5 := rd 5 5 s.f rfl (by omega) rfl
  have r6 := rd 6 6 s.g rfl (by omega) rfl
  have r7 := rd 7 7 s.h rfl (by omega) rfl
  simp only [e92, c92, p92, Tryz.f92, codeOf, comp, opsOf, stOf, cop, cstp, copAt, planFor, List.find?, List.find?_nil, Option.map_none, Option.getD_none, List.any_cons, List.any_nil, Stp.idx, Bool.or_false, Nat.reduceBEq, ↓RP, RS, Int.reduceBEq, Int.reduceBNe, Int.reduceLT, Int.reduceLE, Int.reduceAdd, Int.reduceSub, ↓reduceIte, Nat.reduceAdd, Nat.reduceMul, Nat.reduceSub, Nat.reduceLT, Nat.reduceLeDiff, Nat.reduceEqDiff, decide_true, decide_false, fieldAddrF, undE, tupE, boxE, hc0, allocE, zeroW8]
  refine CallK_use' (sched_ok blk hb _) fun r σ' ⟨q1, q2⟩ => ?_
  subst q1; subst q2
  rw [hW]
  simp only [↓RP, RS, Int.reduceBEq, Int.reduceBNe, Int.reduceLT, Int.reduceLE, Int.reduceAdd, Int.reduceSub, ↓reduceIte, Nat.reduceAdd, Nat.reduceMul, Nat.reduceSub, Nat.reduceLT, Nat.reduceLeDiff, Nat.reduceEqDiff, decide_true, decide_false, fieldAddrF, undE, tupE, allocE, zeroW, st0 _ rfl, (r0 (cW W)).1, (r0 (cW W)).2, (r1 (cW W)).1, (r1 (cW W)).2, (r2 (cW W)).1, (r2 (cW W)).2, (r3 (cW W)).1, (r3 (cW W)).2, (r4 (cW W)).1, (r4 (cW W)).2, (r5 (cW W)).1, (r5 (cW W)).2, (r6 (cW W)).1, (r6 (cW W)).2, (r7 (cW W)).1, (r7 (cW W)).2, chkC]
  have hkl : shaK.length = 64 := shaK_len
  have hzl : (shaK.zip W).length = 64 := by rw [List.length_zip, hkl, hwl]; rfl
  refine Loop_k [2, 4, 5, 6, 7, 8, 9, 10, 11, 12, 13, 35] (fun x : Nat × S8 => fr 0 131 [(2, .ptr 0 0 0), (4, .ptr 1 0 0), (5, .ptr 2 0 0), (6, wV x.2.a), (7, wV x.2.b), (8, wV x.2.c), (9, wV x.2.d), (10, wV x.2.e), (11, wV x.2.f), (12, wV x.2.g), (13, wV x.2.h), (35, .d (.int .i64 (x.1 : Nat)))]) (fun _ => [Ob.box (s8V s), Ob.box zero8, Ob.box (cW W)]) (fun x => x.1 ≤ 64 ∧ x.2 = roundsS s ((shaK.zip W).take x.1)) (fun x => 64 - x.1) (0, s) (by kernel_rfl) rfl ⟨Nat.zero_le _, rfl⟩ fun ⟨i, u⟩ ⟨hi, hu⟩ => ?_
  simp only at hi hu
  by_cases hlt : i < 64
  · have e3 : decide ((i : Int) < 64) = true := by simpa using (by omega : (i : Int) < 64)
    have w1 : IntKind.i64.wrap ((i : Int) + 1) = ((i + 1 : Nat) : Int) := by rw [IntWalk.i64_in _ (by omega)]; rfl
    have ak := at_K shaK i hlt
    have lk := ld_K shaK i (by rw [shaK_len]; exact hlt)
    have aw : indexAddrF Tryz.prog 304 [Ob.box (s8V s), Ob.box zero8, Ob.box (cW W)] (.ptr 2 0 0) (.d (.int .i64 (i : Nat))) = some (.ptr 2 0 i) := cW_at hlt _ rfl
    have lw : loadF Tryz.prog 185 [Ob.box (s8V s), Ob.box zero8, Ob.box (cW W)] (.ptr 2 0 i) = some (.d (.int .u32 (W.getD i 0 : Nat))) := load_box (σ := [Ob.box (s8V s), Ob.box zero8, Ob.box (cW W)]) (o := 2) rfl (cW_get (by omega)) (by simp only [T185]) (by simp only [T185])
    simp only [fr, wV, ↓RP, RS, Int.reduceBEq, Int.reduceBNe, Int.reduceLT, Int.reduceLE, Int.reduceAdd, Int.reduceSub, ↓reduceIte, Nat.reduceAdd, Nat.reduceMul, Nat.reduceSub, Nat.reduceLT, Nat.reduceLeDiff, Nat.reduceEqDiff, decide_true, decide_false, fieldAddrF, undE, tupE, e3, getG, ak, lk, aw, lw, o_and, o_com, o_xor]
    refine CallK_same (turn_ok 6 (by decide) _ _) fun r σ' ⟨q1, q2⟩ => ⟨q2, ?_⟩
    subst q1
    simp only [↓RP, RS, Int.reduceBEq, Int.reduceBNe, Int.reduceLT, Int.reduceLE, Int.reduceAdd, Int.reduceSub, ↓reduceIte, Nat.reduceAdd, Nat.reduceMul, Nat.reduceSub, Nat.reduceLT, Nat.reduceLeDiff, Nat.reduceEqDiff, decide_true, decide_false, fieldAddrF, undE, tupE, getG, ak, lk, aw, lw, o_and, o_com, o_xor, w_add, w1]
    refine CallK_same (turn_ok 11 (by decide) _ _) fun r σ' ⟨q1, q2⟩ => ⟨q2, ?_⟩
    subst q1
    simp only [↓RP, RS, Int.reduceBEq, Int.reduceBNe, Int.reduceLT, Int.reduceLE, Int.reduceAdd, Int.reduceSub, ↓reduceIte, Nat.reduceAdd, Nat.reduceMul, Nat.reduceSub, Nat.reduceLT, Nat.reduceLeDiff, Nat.reduceEqDiff, decide_true, decide_false, fieldAddrF, undE, tupE, getG, ak, lk, aw, lw, o_and, o_com, o_xor, w_add, w1]
    refine CallK_same (turn_ok 25 (by decide) _ _) fun r σ' ⟨q1, q2⟩ => ⟨q2, ?_⟩
    subst q1
    simp only [↓RP, RS, Int.reduceBEq, Int.reduceBNe, Int.reduceLT, Int.reduceLE, Int.reduceAdd, Int.reduceSub, ↓reduceIte, Nat.reduceAdd, Nat.reduceMul, Nat.reduceSub, Nat.reduceLT, Nat.reduceLeDiff, Nat.reduceEqDiff, decide_true, decide_false, fieldAddrF, undE, tupE, getG, ak, lk, aw, lw, o_and, o_com, o_xor, w_add, w1]
    refine CallK_same (turn_ok 2 (by decide) _ _) fun r σ' ⟨q1, q2⟩ => ⟨q2, ?_⟩
    subst q1
    simp only [↓RP, RS, Int.reduceBEq, Int.reduceBNe, Int.reduceLT, Int.reduceLE, Int.reduceAdd, Int.reduceSub, ↓reduceIte, Nat.reduceAdd, Nat.reduceMul, Nat.reduceSub, Nat.reduceLT, Nat.reduceLeDiff, Nat.reduceEqDiff, decide_true, decide_false, fieldAddrF, undE, tupE, getG, ak, lk, aw, lw, o_and, o_com, o_xor, w_add, w1]
    refine CallK_same (turn_ok 13 (by decide) _ _) fun r σ' ⟨q1, q2⟩ => ⟨q2, ?_⟩
    subst q1
    simp only [↓RP, RS, Int.reduceBEq, Int.reduceBNe, Int.reduceLT, Int.reduceLE, Int.reduceAdd, Int.reduceSub, ↓reduceIte, Nat.reduceAdd, Nat.reduceMul, Nat.reduceSub, Nat.reduceLT, Nat.reduceLeDiff, Nat.reduceEqDiff, decide_true, decide_false, fieldAddrF, undE, tupE, getG, ak, lk, aw, lw, o_and, o_com, o_xor, w_add, w1]
    refine CallK_same (turn_ok 22 (by decide) _ _) fun r σ' ⟨q1, q2⟩ => ⟨q2, ?_⟩
    subst q1
    simp only [↓RP, RS, Int.reduceBEq, Int.reduceBNe, Int.reduceLT, Int.reduceLE, Int.reduceAdd, Int.reduceSub, ↓reduceIte, Nat.reduceAdd, Nat.reduceMul, Nat.reduceSub, Nat.reduceLT, Nat.reduceLeDiff, Nat.reduceEqDiff, decide_true, decide_false, fieldAddrF, undE, tupE, getG, ak, lk, aw, lw, o_and, o_com, o_xor, w_add, w1]
    refine seqK_n ?_
    refine ⟨(i + 1, roundS u (shaK.getD i 0) (W.getD i 0)), ⟨by omega, ?_⟩, by omega, by kernel_rfl, rfl⟩
    rw [hu]
    have hlz : i < (shaK.zip W).length := by rw [hzl]; exact hlt
    have hi1 : i < shaK.length := by rw [hkl]; exact hlt
    have hi2 : i < W.length := by rw [hwl]; exact hlt
    rw [List.take_succ_eq_append_getElem hlz, roundsS_snoc, List.getElem_zip, List.getD_eq_getElem?_getD, List.getElem?_eq_getElem hi1, List.getD_eq_getElem?_getD, List.getElem?_eq_getElem hi2]
    rfl
  · have e3 : decide ((i : Int) < 64) = false := by simpa using (by omega : (64 : Int) ≤ (i : Int))
    have hi64 : i = 64 := by omega
    have hum : addS s u = mixL s blk := by
      rw [hu, hi64, List.take_of_length_le (by rw [hzl]; exact Nat.le_refl 64)]
      unfold mixL
      rw [hW]
    simp only [fr, wV, ↓RP, RS, Int.reduceBEq, Int.reduceBNe, Int.reduceLT, Int.reduceLE, Int.reduceAdd, Int.reduceSub, ↓reduceIte, Nat.reduceAdd, Nat.reduceMul, Nat.reduceSub, Nat.reduceLT, Nat.reduceLeDiff, Nat.reduceEqDiff, decide_true, decide_false, fieldAddrF, undE, tupE, e3, (r0 (cW W)).1, (r0 (cW W)).2, (r1 (cW W)).1, (r1 (cW W)).2, (r2 (cW W)).1, (r2 (cW W)).2, (r3 (cW W)).1, (r3 (cW W)).2, (r4 (cW W)).1, (r4 (cW W)).2, (r5 (cW W)).1, (r5 (cW W)).2, (r6 (cW W)).1, (r6 (cW W)).2, (r7 (cW W)).1, (r7 (cW W)).2, w_add]
    refine BindV_of (v := .agg (s8V (addS s u))) (by kernel_rfl) ?_
    have l2 : loadF Tryz.prog 186 [Ob.box (s8V s), Ob.box (s8V (addS s u)), Ob.box (cW W)] (.ptr 1 0 0) = some (.agg (s8V (addS s u))) := by kernel_rfl
    have s2 : storeF Tryz.prog 186 [Ob.box (s8V s), Ob.box zero8, Ob.box (cW W)] (.ptr 1 0 0) (.agg (s8V (addS s u))) = some [Ob.box (s8V s), Ob.box (s8V (addS s u)), Ob.box (cW W)] := by kernel_rfl
    simp only [↓RP, RS, Int.reduceBEq, Int.reduceBNe, Int.reduceLT, Int.reduceLE, Int.reduceAdd, Int.reduceSub, ↓reduceIte, Nat.reduceAdd, Nat.reduceMul, Nat.reduceSub, Nat.reduceLT, Nat.reduceLeDiff, Nat.reduceEqDiff, decide_true, decide_false, fieldAddrF, undE, tupE, s2]
    refine hK.fin (r := .agg (s8V (addS s u))) ?_ (Fin.none0 _ _ (s8_ren _ _)) ⟨by rw [hum], rfl⟩
    simp only [e92, resF, resAll, resOne, List.getD_cons_zero, List.getD_cons_succ, l2]
end Go.Proofs.YteafabpedfgedaaGreatDoor.Am
