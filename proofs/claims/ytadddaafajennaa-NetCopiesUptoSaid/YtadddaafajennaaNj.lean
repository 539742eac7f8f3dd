/- Walks: a new network. -/
import Derived.Test.YtadddaafajennaaNi
set_option linter.unusedSimpArgs false
set_option linter.unusedVariables false
set_option maxRecDepth 10000
namespace Go.Proofs.Ytadddaafajennaa.Am
open Go Go.Proofs

theorem min2 {P : Program} {ts : List TypeId} {σ : List Ob} (k : IntKind) (a b : Int) : builtinF P .min ts σ [.d (.int k a), .d (.int k b)] = some (.d (.int k (min a b))) := by
  simp [builtinF, minMaxF, foldMM]
theorem max2 {P : Program} {ts : List TypeId} {σ : List Ob} (k : IntKind) (a b : Int) : builtinF P .max ts σ [.d (.int k a), .d (.int k b)] = some (.d (.int k (max a b))) := by
  simp [builtinF, minMaxF, foldMM]

def nRows (k i : Nat) : List V := (List.range k).map fun r => if r < i then .sl (2 + r) 0 k else .d .nils
def nRow (k : Nat) : List V := (List.replicate k [V.d .nils, V.d (.bool false)]).flatten
def nStore (k i : Nat) : List Ob := .box (nRows k i) :: .box [.sl 0 0 k] :: List.replicate i (.box (nRow k))
def manyOf (n : Int) : Nat := (max 0 (min n 20)).toNat

theorem nRows_zero (k : Nat) : nRows k 0 = (List.replicate k [V.d .nils]).flatten := by
  apply List.ext_getElem?
  intro i
  by_cases g : i < k
  · simp [nRows, List.getElem?_range g, g]
  · simp [nRows, g]
theorem nRows_succ {k i : Nat} (hi : i < k) : (nRows k i).set i (.sl (2 + i) 0 k) = nRows k (i + 1) := by
  apply List.ext_getElem?
  intro r
  rw [List.getElem?_set]
  by_cases c : i = r
  · subst c
    simp [nRows, hi]
  · simp only [c, if_false, nRows, List.getElem?_map]
    by_cases g : r < k
    · rw [List.getElem?_range g]
      simp only [Option.map_some]
      congr 1
      by_cases q : r < i
      · rw [if_pos q, if_pos (by omega)]
      · rw [if_neg q, if_neg (by omega)]
    · rw [List.getElem?_eq_none (by simp; omega)]; rfl

theorem new9c (n : Int) : callA Try.prog 9 [.d (.int .i64 n)] [] fun r σ' => r = .ptr 1 0 0 ∧ σ' = nStore (manyOf n) (manyOf n) := by
  refine w9.go fun K hK => ?_
  have hm : max 0 (min n 20) = ((manyOf n : Nat) : Int) := by unfold manyOf; omega
  have h20 : manyOf n ≤ 20 := by unfold manyOf; omega
  generalize manyOf n = k at hm h20 hK
  have mk1 := make_vec (P := Try.prog) (t := 64) (e := 67) (σ := []) (n := k) (k1 := .i64) (k2 := .i64) (by simp only [W9]) (by simp only [W9] <;> rfl) (by simp only [W9]) (by simp only [W9]) (by simp only [W9]; omega)
  rw [← nRows_zero] at mk1
  have s1 : setAt [V.d D.nils] 0 [V.sl 0 0 k] = [V.sl 0 0 k] := rfl
  have o1 : one [Ob.box (nRows k 0)] (.sl 0 0 k) = true := one_sl rfl
  have h0 : ∀ i τ, (Ob.box (nRows k i) :: Ob.box [.sl 0 0 k] :: τ)[1]? = some (.box [.sl 0 0 k]) := fun i τ => rfl
  have l1 : ∀ i τ, loadF Try.prog 64 (Ob.box (nRows k i) :: Ob.box [.sl 0 0 k] :: τ) (.ptr 1 0 0) = some (.sl 0 0 k) := fun i τ => load_box (h0 i τ) rfl (by simp only [W9]) (by simp only [W9])
  simp only [e9, c9, p9, Try.f9, codeOf, comp, opsOf, stOf, cop, cstp, copAt, planFor, List.find?, List.find?_nil, Option.map_none, Option.getD_none, List.any_cons, List.any_nil, Stp.idx, Bool.or_false, Nat.reduceBEq, ↓RP, RS, Int.reduceBEq, Int.reduceBNe, Int.reduceLT, Int.reduceLE, Int.reduceAdd, Int.reduceSub, ↓reduceIte, Nat.reduceAdd, Nat.reduceMul, Nat.reduceSub, Nat.reduceLT, Nat.reduceLeDiff, Nat.reduceEqDiff, decide_true, decide_false, fieldAddrF, undE, tupE, W9, min2, max2, hm, mk1, boxE, cellsV, buildF, fillV, o1, s1, alive, l1]
  refine Loop_k [0, 3, 16, 17] (fun i : Nat => fr 0 30 [(0, .d (.int .i64 k)), (3, .ptr 1 0 0), (16, .d (.int .i64 k)), (17, .d (.int .i64 i))]) (fun i => nStore k i) (fun i => i ≤ k) (fun i => k - i) 0 (by kernel_rfl) rfl (Nat.zero_le _) fun i hi => ?_
  by_cases hlt : i < k
  · have hd : decide ((i : Int) < k) = true := by simpa using hlt
    have w1 : IntKind.i64.wrap ((i : Int) + 1) = ((i + 1 : Nat) : Int) := by rw [IntWalk.i64_in _ (by omega)]; rfl
    have mk2 : ∀ σ, makeF Try.prog 67 σ (.d (.int .i64 (k : Int))) (.d (.int .i64 (k : Int))) = some (.sl σ.length 0 k, σ ++ [.box (nRow k)]) := fun σ => make_vec (P := Try.prog) (t := 67) (e := 77) (σ := σ) (n := k) (k1 := .i64) (k2 := .i64) (by simp only [W9]) (by simp only [W9] <;> rfl) (by simp only [W9]) (by simp only [W9]) (by simp only [W9]; omega)
    have x1 : ∀ τ, indexAddrF Try.prog 64 (Ob.box (nRows k i) :: Ob.box [.sl 0 0 k] :: τ) (.sl 0 0 k) (.d (.int .i64 (i : Int))) = some (.ptr 0 0 i) := fun τ => by
      have := index_box (P := Try.prog) (t := 64) (e := 67) (kd := .i64) (σ := Ob.box (nRows k i) :: Ob.box [.sl 0 0 k] :: τ) (o := 0) rfl (by simp only [W9]) (by simp [W9]) hlt
      rw [this]; simp only [W9, Nat.mul_one]
    have al : alive (Ob.box (nRows k i) :: Ob.box [.sl 0 0 k] :: (List.replicate i (Ob.box (nRow k)) ++ [Ob.box (nRow k)])) (i + 1 + 1) = true := alive_of (x := .box (nRow k)) (by simp) (by simp)
    have st := store_box (P := Try.prog) (t := 67) (σ := Ob.box (nRows k i) :: Ob.box [.sl 0 0 k] :: (List.replicate i (Ob.box (nRow k)) ++ [Ob.box (nRow k)])) (o := 0) (k := i) (x := .sl (i + 1 + 1) 0 k) rfl (one_sl al) (by simpa [nRows] using hlt) (by simp only [W9])
    simp only [fr, nStore, ↓RP, RS, Int.reduceBEq, Int.reduceBNe, Int.reduceLT, Int.reduceLE, Int.reduceAdd, Int.reduceSub, ↓reduceIte, Nat.reduceAdd, Nat.reduceMul, Nat.reduceSub, Nat.reduceLT, Nat.reduceLeDiff, Nat.reduceEqDiff, decide_true, decide_false, fieldAddrF, undE, tupE, W9, hd, alive, l1, mk2, chkC, wantC, x1, List.length_replicate, w1, st]
    refine seqK_n ⟨i + 1, by omega, by omega, by kernel_rfl, ?_⟩
    rw [show i + 1 + 1 = 2 + i by omega, nRows_succ hlt, List.replicate_succ']
  · have hd : decide ((i : Int) < k) = false := by simpa using hlt
    have : i = k := by omega
    subst this
    simp only [fr, ↓RP, RS, Int.reduceBEq, Int.reduceBNe, Int.reduceLT, Int.reduceLE, Int.reduceAdd, Int.reduceSub, ↓reduceIte, Nat.reduceAdd, Nat.reduceMul, Nat.reduceSub, Nat.reduceLT, Nat.reduceLeDiff, Nat.reduceEqDiff, decide_true, decide_false, fieldAddrF, undE, tupE, W9, hd]
    exact hK.ret (by rfl) ⟨by rfl, by rfl⟩

def nRole (N k : Nat) : Nat → Role := fun o => if o = N then .links else if o = N + 1 then .net else if N + 2 ≤ o ∧ o < N + 2 + k then .row (o - N - 2) else .other

theorem new9 (n : Int) (τ : List Ob) : callA Try.prog 9 [.d (.int .i64 n)] τ fun r σ' => ∃ L R Q role, r = .ptr (τ.length + 1) 0 0 ∧ NetAt σ' (τ.length + 1) (manyOf n) (fun _ _ => (false, [])) L R Q role ∧ Kept (fun _ => .other) role τ σ' := by
  refine callA_mono (callA_at (new9c n) τ rfl) fun r σ' ⟨r0, σ0, ⟨q1, q2⟩, q3, q4⟩ => ?_
  subst q1; subst q2
  have h20 : manyOf n ≤ 20 := by unfold manyOf; omega
  generalize manyOf n = k at q4 h20
  generalize hN : τ.length = N at q3 q4
  have e0 : ∀ o, emb [] N o = N + o := fun o => by simp [emb]
  have q4' : σ' = τ ++ (.box ((nRows k k).map (embV [] N)) :: .box [.sl N 0 k] :: List.replicate k (.box (nRow k))) := by
    rw [q4]
    congr 1
    have r1 : ∀ cs : List V, renVs (fun o => some (emb [] N o)) cs = cs.map (embV [] N) := by
      intro cs; induction cs with
      | nil => rfl
      | cons c r ih => simp only [renVs, List.map_cons, ih]; rfl
    have r2 : (nRow k).map (embV [] N) = nRow k := by
      unfold nRow
      rw [List.map_flatten, List.map_replicate]; rfl
    simp only [nStore, List.map_cons, embO, renO, r1, List.map_nil, List.map_replicate, r2]
    rfl
  have g1 : ∀ i, i < k → ((nRows k k).map (embV [] N))[i]? = some (.sl (N + 2 + i) 0 k) := by
    intro i hi
    simp only [nRows, List.map_map, List.getElem?_map, List.getElem?_range hi, Option.map_some, Function.comp, if_pos hi]
    simp only [embV, renV, e0, Nat.add_assoc]
  have g2 : ∀ j, j < k → (nRow k)[j * 2]? = some (.d .nils) ∧ (nRow k)[j * 2 + 1]? = some (.d (.bool false)) := by
    have : ∀ k j, j < k → (nRow k)[j * 2]? = some (V.d .nils) ∧ (nRow k)[j * 2 + 1]? = some (V.d (.bool false)) := by
      intro k
      induction k with
      | zero => intro j hj; omega
      | succ k ih =>
        intro j hj
        have e : nRow (k + 1) = V.d .nils :: V.d (.bool false) :: nRow k := by simp [nRow, List.replicate_succ]
        rw [e]
        cases j with
        | zero => exact ⟨rfl, rfl⟩
        | succ j =>
          have := ih j (by omega)
          rw [show (j + 1) * 2 = j * 2 + 1 + 1 by omega]
          simpa using this
    exact this k
  subst q4'
  subst hN
  have gl : ∀ i, (τ ++ (.box ((nRows k k).map (embV [] τ.length)) :: .box [.sl τ.length 0 k] :: List.replicate k (.box (nRow k))))[τ.length + i]? = (Ob.box ((nRows k k).map (embV [] τ.length)) :: .box [.sl τ.length 0 k] :: List.replicate k (.box (nRow k)))[i]? := fun i => by rw [List.getElem?_append_right (by omega)]; congr 1; omega
  refine ⟨τ.length, fun i => τ.length + 2 + i, fun _ _ => none, nRole τ.length k, q3, ⟨h20, gl 1, ⟨_, gl 0, g1⟩, fun i hi => ⟨nRow k, ?_, fun j hj => g2 j hj⟩, fun i j _ _ => rfl, fun o ho => ?_, ?_, ?_, fun i hi => ?_, (fun i j _ _ q hq => by cases hq), fun i j _ _ => by simp, fun i j _ _ m hm => by simp at hm⟩, ⟨Keeps.app _ _ _, fun o ho _ => ?_⟩⟩
  · rw [Nat.add_assoc, gl (2 + i), Nat.add_comm 2 i]
    simp [hi]
  · simp only [List.length_append, List.length_cons, List.length_replicate]
    unfold nRole at ho
    split at ho
    · omega
    · split at ho
      · omega
      · split at ho
        · omega
        · exact (ho rfl).elim
  · unfold nRole; rw [if_neg (by omega), if_pos rfl]
  · unfold nRole; rw [if_pos rfl]
  · unfold nRole; rw [if_neg (by omega), if_neg (by omega), if_pos (by omega)]; congr 1; omega
  · unfold nRole; rw [if_neg (by omega), if_neg (by omega), if_neg (by omega)]
end Go.Proofs.Ytadddaafajennaa.Am
