/- How many digits a number has: the walk of Len64 (printed by genL.py). -/
import Derived.Test.YteafabpedfgedaaGreatDoorZ19
import Derived.Test.YteafabpedfgedaaGreatDoorZ20
import Derived.Test.YteafabpedfgedaaGreatDoorZ17
section
set_option linter.unusedSimpArgs false
set_option linter.unusedVariables false
set_option maxRecDepth 10000
set_option maxHeartbeats 8000000
namespace Go.Proofs.YteafabpedfgedaaGreatDoor.Am
open Go Go.Proofs
/-! ### how many digits -/
theorem bitLen_zero : ∀ k, bitLen k 0 = 0
  | 0 => rfl
  | k + 1 => rfl
theorem bitLen_succ (k n : Nat) (h : n ≠ 0) : bitLen (k + 1) n = bitLen k (n / 2) + 1 := by simp [bitLen, h]
theorem bitLen_more : ∀ (k n j : Nat), n < 2 ^ k → bitLen (k + j) n = bitLen k n
  | 0, n, j, h => by
    have : n = 0 := by simpa using h
    subst this
    rw [bitLen_zero, bitLen_zero]
  | k + 1, n, j, h => by
    by_cases hn : n = 0
    · subst hn; rw [bitLen_zero, bitLen_zero]
    · rw [show k + 1 + j = (k + j) + 1 by omega, bitLen_succ _ _ hn, bitLen_succ _ _ hn, bitLen_more k (n / 2) j (by rw [Nat.pow_succ] at h; omega)]
theorem bitLen_shift : ∀ (m k n : Nat), 2 ^ m ≤ n → bitLen (m + k) n = m + bitLen k (n / 2 ^ m)
  | 0, k, n, h => by simp
  | m + 1, k, n, h => by
    rw [Nat.pow_succ] at h
    have hp : 0 < 2 ^ m := Nat.two_pow_pos m
    rw [show m + 1 + k = (m + k) + 1 by omega, bitLen_succ _ _ (by omega), bitLen_shift m k (n / 2) (by omega), Nat.div_div_eq_div_mul, Nat.pow_succ, Nat.mul_comm 2]
    omega

theorem BindV_at {P : Program} {n : Nat} {x : Option V} {d : Option Tmp} {l : List CStp} {kk : List Fr} {s : List V} {σ : List Ob} {K : Ex → List V → List Ob → Prop} {v : V} (h : x = some v) (hk : Rn P n l kk (putV s d v) σ K) : BindV P n x d l kk s σ K := by subst h; exact hk
theorem with_eq' {α : Type} {C : Prop} (a : α) (h : ∀ b, b = a → C) : C := h a rfl
theorem tab256 (f : Nat → Option V) (g : Nat → V) (h : ((List.range 256).all fun v => match f v with | some a => vEq a (g v) | none => false) = true) {x : Nat} (hx : x < 256) : f x = some (g x) := by
  have := List.all_eq_true.1 h x (List.mem_range.2 hx)
  cases hf : f x with
  | none => rw [hf] at this; cases this
  | some a => rw [hf] at this; rw [vEq_eq a (g x) this]
theorem bitLen_le : ∀ k n, bitLen k n ≤ k
  | 0, n => Nat.le_refl _
  | k + 1, n => by
    by_cases hn : n = 0
    · subst hn; rw [bitLen_zero]; omega
    · rw [bitLen_succ _ _ hn]; have := bitLen_le k (n / 2); omega
theorem bitLen8 (n : Nat) : bitLen 8 n ≤ 8 := bitLen_le 8 n
theorem cv_u8' (n : Nat) (h : n < 256) (σ : List Ob) : cvF Tryz.prog 218 5 σ (.d (.int .u64 (n : Int))) = some (.d (.int .u8 (n : Nat)), σ) := by
  simp only [cvF, convF, T5, T218, if_true, wrap_u8]
  rw [Nat.mod_eq_of_lt h]
theorem cv_u8i (n : Nat) (h : n ≤ 8) (σ : List Ob) : cvF Tryz.prog 5 3 σ (.d (.int .u8 (n : Int))) = some (.d (.int .i64 (n : Nat)), σ) := by
  have e : IntKind.i64.wrap (n : Int) = (n : Int) := IntWalk.i64_in _ (by omega)
  simp only [cvF, convF, T5, T3, if_true, e]

theorem len64_ok (x : Nat) (h : x < 18446744073709551616) (τ : List Ob) : callA Tryz.prog 118 [.d (.int .u64 x)] τ fun r σ' => r = .d (.int .i64 (bitLen 64 x : Nat)) ∧ σ' = τ := by
  refine callA_frozen ?_ τ rfl rfl
  have hb0 : bitLen 64 x = 0 + bitLen 64 x := by omega
  refine w118.go fun K hK => ?_
  simp only [e118, c118, p118, Tryz.f118, codeOf, comp, opsOf, stOf, cop, cstp, copAt, planFor, List.find?, List.find?_nil, Option.map_none, Option.getD_none, List.any_cons, List.any_nil, Stp.idx, Bool.or_false, Nat.reduceBEq, ↓RP, RS, Int.reduceBEq, Int.reduceBNe, Int.reduceLT, Int.reduceLE, Int.reduceAdd, Int.reduceSub, ↓reduceIte, Nat.reduceAdd, Nat.reduceMul, Nat.reduceSub, Nat.reduceLT, Nat.reduceLeDiff, Nat.reduceEqDiff, decide_true, decide_false, fieldAddrF, undE, tupE]
  by_cases h : 4294967296 ≤ x
  · have g : decide ((4294967296 : Int) ≤ (x : Int)) = true := by simpa using (by omega : (4294967296 : Int) ≤ x)
    have g' : decide ((x : Int) ≥ 4294967296) = true := g
    refine with_eq' (x / 4294967296) ?_
    intro v1 hv1
    have e : bitLen 64 x = 32 + bitLen 32 (x / 4294967296) := bitLen_shift 32 32 x (by omega)
    have hb1 : bitLen 64 x = 32 + bitLen 32 v1 := by rw [hb0, e, ← hv1]; omega
    have sh : ∀ t σ, binF Tryz.prog .shr t σ (.d (.int .u64 (x : Nat))) (.d (.int .u64 32)) = some (.d (.int .u64 (v1 : Nat))) := fun t σ => by rw [hv1]; exact u64_shr x .u64 32 (by omega)
    have wn' : IntKind.i64.wrap 32 = 32 := rfl
    simp only [↓RP, RS, Int.reduceBEq, Int.reduceBNe, Int.reduceLT, Int.reduceLE, Int.reduceAdd, Int.reduceSub, ↓reduceIte, Nat.reduceAdd, Nat.reduceMul, Nat.reduceSub, Nat.reduceLT, Nat.reduceLeDiff, Nat.reduceEqDiff, decide_true, decide_false, fieldAddrF, undE, tupE, g, g', sh, wn']
    by_cases h1 : 65536 ≤ v1
    · have g : decide ((65536 : Int) ≤ (v1 : Int)) = true := by simpa using (by omega : (65536 : Int) ≤ v1)
      have g' : decide ((v1 : Int) ≥ 65536) = true := g
      refine with_eq' (v1 / 65536) ?_
      intro v11 hv11
      have e : bitLen 32 v1 = 16 + bitLen 16 (v1 / 65536) := bitLen_shift 16 16 v1 (by omega)
      have hb11 : bitLen 64 x = 48 + bitLen 16 v11 := by rw [hb1, e, ← hv11]; omega
      have sh : ∀ t σ, binF Tryz.prog .shr t σ (.d (.int .u64 (v1 : Nat))) (.d (.int .u64 16)) = some (.d (.int .u64 (v11 : Nat))) := fun t σ => by rw [hv11]; exact u64_shr v1 .u64 16 (by omega)
      have wn' : IntKind.i64.wrap 48 = 48 := rfl
      simp only [↓RP, RS, Int.reduceBEq, Int.reduceBNe, Int.reduceLT, Int.reduceLE, Int.reduceAdd, Int.reduceSub, ↓reduceIte, Nat.reduceAdd, Nat.reduceMul, Nat.reduceSub, Nat.reduceLT, Nat.reduceLeDiff, Nat.reduceEqDiff, decide_true, decide_false, fieldAddrF, undE, tupE, g, g', sh, wn']
      by_cases h11 : 256 ≤ v11
      · have g : decide ((256 : Int) ≤ (v11 : Int)) = true := by simpa using (by omega : (256 : Int) ≤ v11)
        have g' : decide ((v11 : Int) ≥ 256) = true := g
        refine with_eq' (v11 / 256) ?_
        intro v111 hv111
        have e : bitLen 16 v11 = 8 + bitLen 8 (v11 / 256) := bitLen_shift 8 8 v11 (by omega)
        have hb111 : bitLen 64 x = 56 + bitLen 8 v111 := by rw [hb11, e, ← hv111]; omega
        have sh : ∀ t σ, binF Tryz.prog .shr t σ (.d (.int .u64 (v11 : Nat))) (.d (.int .u64 8)) = some (.d (.int .u64 (v111 : Nat))) := fun t σ => by rw [hv111]; exact u64_shr v11 .u64 8 (by omega)
        have wn' : IntKind.i64.wrap 56 = 56 := rfl
        simp only [↓RP, RS, Int.reduceBEq, Int.reduceBNe, Int.reduceLT, Int.reduceLE, Int.reduceAdd, Int.reduceSub, ↓reduceIte, Nat.reduceAdd, Nat.reduceMul, Nat.reduceSub, Nat.reduceLT, Nat.reduceLeDiff, Nat.reduceEqDiff, decide_true, decide_false, fieldAddrF, undE, tupE, g, g', sh, wn']
        have hv : v111 < 256 := by omega
        have cv : ∀ σ, cvF Tryz.prog 218 5 σ (.d (.int .u64 (v111 : Nat))) = some (.d (.int .u8 (v111 : Nat)), σ) := fun σ => cv_u8' v111 hv σ
        simp only [↓RP, RS, Int.reduceBEq, Int.reduceBNe, Int.reduceLT, Int.reduceLE, Int.reduceAdd, Int.reduceSub, ↓reduceIte, Nat.reduceAdd, Nat.reduceMul, Nat.reduceSub, Nat.reduceLT, Nat.reduceLeDiff, Nat.reduceEqDiff, decide_true, decide_false, fieldAddrF, undE, tupE, cv]
        refine BindV_at (v := .d (.int .u8 (bitLen 8 v111 : Nat))) (tab256 (fun w => indexF Tryz.prog 9 _ (.d (.int .u8 (w : Nat)))) (fun w => .d (.int .u8 (bitLen 8 w : Nat))) (by kernel_rfl) hv) ?_
        have hb8 := bitLen8 v111
        have wa : IntKind.i64.wrap ((56 : Int) + ((bitLen 8 v111 : Nat) : Int)) = ((bitLen 64 x : Nat) : Int) := by
          rw [IntWalk.i64_in _ (by omega), hb111]; omega
        simp only [↓RP, RS, Int.reduceBEq, Int.reduceBNe, Int.reduceLT, Int.reduceLE, Int.reduceAdd, Int.reduceSub, ↓reduceIte, Nat.reduceAdd, Nat.reduceMul, Nat.reduceSub, Nat.reduceLT, Nat.reduceLeDiff, Nat.reduceEqDiff, decide_true, decide_false, fieldAddrF, undE, tupE, cv_u8i _ hb8, wa]
        refine hK.fin (r := .d (.int .i64 (bitLen 64 x : Nat))) ?_ (Fin.none0 _ _ rfl) ⟨rfl, rfl⟩
        simp only [e118, resF, resAll, resOne, List.getD_cons_zero, List.getD_cons_succ]
      · have g : decide ((256 : Int) ≤ (v11 : Int)) = false := by simpa using (by omega : (v11 : Int) < 256)
        have g' : decide ((v11 : Int) ≥ 256) = false := g
        have e : bitLen 16 v11 = bitLen 8 v11 := bitLen_more 8 v11 8 (by omega)
        have hb110 : bitLen 64 x = 48 + bitLen 8 v11 := by rw [hb11, e]
        simp only [↓RP, RS, Int.reduceBEq, Int.reduceBNe, Int.reduceLT, Int.reduceLE, Int.reduceAdd, Int.reduceSub, ↓reduceIte, Nat.reduceAdd, Nat.reduceMul, Nat.reduceSub, Nat.reduceLT, Nat.reduceLeDiff, Nat.reduceEqDiff, decide_true, decide_false, fieldAddrF, undE, tupE, g, g']
        have hv : v11 < 256 := by omega
        have cv : ∀ σ, cvF Tryz.prog 218 5 σ (.d (.int .u64 (v11 : Nat))) = some (.d (.int .u8 (v11 : Nat)), σ) := fun σ => cv_u8' v11 hv σ
        simp only [↓RP, RS, Int.reduceBEq, Int.reduceBNe, Int.reduceLT, Int.reduceLE, Int.reduceAdd, Int.reduceSub, ↓reduceIte, Nat.reduceAdd, Nat.reduceMul, Nat.reduceSub, Nat.reduceLT, Nat.reduceLeDiff, Nat.reduceEqDiff, decide_true, decide_false, fieldAddrF, undE, tupE, cv]
        refine BindV_at (v := .d (.int .u8 (bitLen 8 v11 : Nat))) (tab256 (fun w => indexF Tryz.prog 9 _ (.d (.int .u8 (w : Nat)))) (fun w => .d (.int .u8 (bitLen 8 w : Nat))) (by kernel_rfl) hv) ?_
        have hb8 := bitLen8 v11
        have wa : IntKind.i64.wrap ((48 : Int) + ((bitLen 8 v11 : Nat) : Int)) = ((bitLen 64 x : Nat) : Int) := by
          rw [IntWalk.i64_in _ (by omega), hb110]; omega
        simp only [↓RP, RS, Int.reduceBEq, Int.reduceBNe, Int.reduceLT, Int.reduceLE, Int.reduceAdd, Int.reduceSub, ↓reduceIte, Nat.reduceAdd, Nat.reduceMul, Nat.reduceSub, Nat.reduceLT, Nat.reduceLeDiff, Nat.reduceEqDiff, decide_true, decide_false, fieldAddrF, undE, tupE, cv_u8i _ hb8, wa]
        refine hK.fin (r := .d (.int .i64 (bitLen 64 x : Nat))) ?_ (Fin.none0 _ _ rfl) ⟨rfl, rfl⟩
        simp only [e118, resF, resAll, resOne, List.getD_cons_zero, List.getD_cons_succ]
    · have g : decide ((65536 : Int) ≤ (v1 : Int)) = false := by simpa using (by omega : (v1 : Int) < 65536)
      have g' : decide ((v1 : Int) ≥ 65536) = false := g
      have e : bitLen 32 v1 = bitLen 16 v1 := bitLen_more 16 v1 16 (by omega)
      have hb10 : bitLen 64 x = 32 + bitLen 16 v1 := by rw [hb1, e]
      simp only [↓RP, RS, Int.reduceBEq, Int.reduceBNe, Int.reduceLT, Int.reduceLE, Int.reduceAdd, Int.reduceSub, ↓reduceIte, Nat.reduceAdd, Nat.reduceMul, Nat.reduceSub, Nat.reduceLT, Nat.reduceLeDiff, Nat.reduceEqDiff, decide_true, decide_false, fieldAddrF, undE, tupE, g, g']
      by_cases h10 : 256 ≤ v1
      · have g : decide ((256 : Int) ≤ (v1 : Int)) = true := by simpa using (by omega : (256 : Int) ≤ v1)
        have g' : decide ((v1 : Int) ≥ 256) = true := g
        refine with_eq' (v1 / 256) ?_
        intro v101 hv101
        have e : bitLen 16 v1 = 8 + bitLen 8 (v1 / 256) := bitLen_shift 8 8 v1 (by omega)
        have hb101 : bitLen 64 x = 40 + bitLen 8 v101 := by rw [hb10, e, ← hv101]; omega
        have sh : ∀ t σ, binF Tryz.prog .shr t σ (.d (.int .u64 (v1 : Nat))) (.d (.int .u64 8)) = some (.d (.int .u64 (v101 : Nat))) := fun t σ => by rw [hv101]; exact u64_shr v1 .u64 8 (by omega)
        have wn' : IntKind.i64.wrap 40 = 40 := rfl
        simp only [↓RP, RS, Int.reduceBEq, Int.reduceBNe, Int.reduceLT, Int.reduceLE, Int.reduceAdd, Int.reduceSub, ↓reduceIte, Nat.reduceAdd, Nat.reduceMul, Nat.reduceSub, Nat.reduceLT, Nat.reduceLeDiff, Nat.reduceEqDiff, decide_true, decide_false, fieldAddrF, undE, tupE, g, g', sh, wn']
        have hv : v101 < 256 := by omega
        have cv : ∀ σ, cvF Tryz.prog 218 5 σ (.d (.int .u64 (v101 : Nat))) = some (.d (.int .u8 (v101 : Nat)), σ) := fun σ => cv_u8' v101 hv σ
        simp only [↓RP, RS, Int.reduceBEq, Int.reduceBNe, Int.reduceLT, Int.reduceLE, Int.reduceAdd, Int.reduceSub, ↓reduceIte, Nat.reduceAdd, Nat.reduceMul, Nat.reduceSub, Nat.reduceLT, Nat.reduceLeDiff, Nat.reduceEqDiff, decide_true, decide_false, fieldAddrF, undE, tupE, cv]
        refine BindV_at (v := .d (.int .u8 (bitLen 8 v101 : Nat))) (tab256 (fun w => indexF Tryz.prog 9 _ (.d (.int .u8 (w : Nat)))) (fun w => .d (.int .u8 (bitLen 8 w : Nat))) (by kernel_rfl) hv) ?_
        have hb8 := bitLen8 v101
        have wa : IntKind.i64.wrap ((40 : Int) + ((bitLen 8 v101 : Nat) : Int)) = ((bitLen 64 x : Nat) : Int) := by
          rw [IntWalk.i64_in _ (by omega), hb101]; omega
        simp only [↓RP, RS, Int.reduceBEq, Int.reduceBNe, Int.reduceLT, Int.reduceLE, Int.reduceAdd, Int.reduceSub, ↓reduceIte, Nat.reduceAdd, Nat.reduceMul, Nat.reduceSub, Nat.reduceLT, Nat.reduceLeDiff, Nat.reduceEqDiff, decide_true, decide_false, fieldAddrF, undE, tupE, cv_u8i _ hb8, wa]
        refine hK.fin (r := .d (.int .i64 (bitLen 64 x : Nat))) ?_ (Fin.none0 _ _ rfl) ⟨rfl, rfl⟩
        simp only [e118, resF, resAll, resOne, List.getD_cons_zero, List.getD_cons_succ]
      · have g : decide ((256 : Int) ≤ (v1 : Int)) = false := by simpa using (by omega : (v1 : Int) < 256)
        have g' : decide ((v1 : Int) ≥ 256) = false := g
        have e : bitLen 16 v1 = bitLen 8 v1 := bitLen_more 8 v1 8 (by omega)
        have hb100 : bitLen 64 x = 32 + bitLen 8 v1 := by rw [hb10, e]
        simp only [↓RP, RS, Int.reduceBEq, Int.reduceBNe, Int.reduceLT, Int.reduceLE, Int.reduceAdd, Int.reduceSub, ↓reduceIte, Nat.reduceAdd, Nat.reduceMul, Nat.reduceSub, Nat.reduceLT, Nat.reduceLeDiff, Nat.reduceEqDiff, decide_true, decide_false, fieldAddrF, undE, tupE, g, g']
        have hv : v1 < 256 := by omega
        have cv : ∀ σ, cvF Tryz.prog 218 5 σ (.d (.int .u64 (v1 : Nat))) = some (.d (.int .u8 (v1 : Nat)), σ) := fun σ => cv_u8' v1 hv σ
        simp only [↓RP, RS, Int.reduceBEq, Int.reduceBNe, Int.reduceLT, Int.reduceLE, Int.reduceAdd, Int.reduceSub, ↓reduceIte, Nat.reduceAdd, Nat.reduceMul, Nat.reduceSub, Nat.reduceLT, Nat.reduceLeDiff, Nat.reduceEqDiff, decide_true, decide_false, fieldAddrF, undE, tupE, cv]
        refine BindV_at (v := .d (.int .u8 (bitLen 8 v1 : Nat))) (tab256 (fun w => indexF Tryz.prog 9 _ (.d (.int .u8 (w : Nat)))) (fun w => .d (.int .u8 (bitLen 8 w : Nat))) (by kernel_rfl) hv) ?_
        have hb8 := bitLen8 v1
        have wa : IntKind.i64.wrap ((32 : Int) + ((bitLen 8 v1 : Nat) : Int)) = ((bitLen 64 x : Nat) : Int) := by
          rw [IntWalk.i64_in _ (by omega), hb100]; omega
        simp only [↓RP, RS, Int.reduceBEq, Int.reduceBNe, Int.reduceLT, Int.reduceLE, Int.reduceAdd, Int.reduceSub, ↓reduceIte, Nat.reduceAdd, Nat.reduceMul, Nat.reduceSub, Nat.reduceLT, Nat.reduceLeDiff, Nat.reduceEqDiff, decide_true, decide_false, fieldAddrF, undE, tupE, cv_u8i _ hb8, wa]
        refine hK.fin (r := .d (.int .i64 (bitLen 64 x : Nat))) ?_ (Fin.none0 _ _ rfl) ⟨rfl, rfl⟩
        simp only [e118, resF, resAll, resOne, List.getD_cons_zero, List.getD_cons_succ]
  · have g : decide ((4294967296 : Int) ≤ (x : Int)) = false := by simpa using (by omega : (x : Int) < 4294967296)
    have g' : decide ((x : Int) ≥ 4294967296) = false := g
    have e : bitLen 64 x = bitLen 32 x := bitLen_more 32 x 32 (by omega)
    have hb0 : bitLen 64 x = 0 + bitLen 32 x := by rw [hb0, e]
    simp only [↓RP, RS, Int.reduceBEq, Int.reduceBNe, Int.reduceLT, Int.reduceLE, Int.reduceAdd, Int.reduceSub, ↓reduceIte, Nat.reduceAdd, Nat.reduceMul, Nat.reduceSub, Nat.reduceLT, Nat.reduceLeDiff, Nat.reduceEqDiff, decide_true, decide_false, fieldAddrF, undE, tupE, g, g']
    by_cases h0 : 65536 ≤ x
    · have g : decide ((65536 : Int) ≤ (x : Int)) = true := by simpa using (by omega : (65536 : Int) ≤ x)
      have g' : decide ((x : Int) ≥ 65536) = true := g
      refine with_eq' (x / 65536) ?_
      intro v01 hv01
      have e : bitLen 32 x = 16 + bitLen 16 (x / 65536) := bitLen_shift 16 16 x (by omega)
      have hb01 : bitLen 64 x = 16 + bitLen 16 v01 := by rw [hb0, e, ← hv01]; omega
      have sh : ∀ t σ, binF Tryz.prog .shr t σ (.d (.int .u64 (x : Nat))) (.d (.int .u64 16)) = some (.d (.int .u64 (v01 : Nat))) := fun t σ => by rw [hv01]; exact u64_shr x .u64 16 (by omega)
      have wn' : IntKind.i64.wrap 16 = 16 := rfl
      simp only [↓RP, RS, Int.reduceBEq, Int.reduceBNe, Int.reduceLT, Int.reduceLE, Int.reduceAdd, Int.reduceSub, ↓reduceIte, Nat.reduceAdd, Nat.reduceMul, Nat.reduceSub, Nat.reduceLT, Nat.reduceLeDiff, Nat.reduceEqDiff, decide_true, decide_false, fieldAddrF, undE, tupE, g, g', sh, wn']
      by_cases h01 : 256 ≤ v01
      · have g : decide ((256 : Int) ≤ (v01 : Int)) = true := by simpa using (by omega : (256 : Int) ≤ v01)
        have g' : decide ((v01 : Int) ≥ 256) = true := g
        refine with_eq' (v01 / 256) ?_
        intro v011 hv011
        have e : bitLen 16 v01 = 8 + bitLen 8 (v01 / 256) := bitLen_shift 8 8 v01 (by omega)
        have hb011 : bitLen 64 x = 24 + bitLen 8 v011 := by rw [hb01, e, ← hv011]; omega
        have sh : ∀ t σ, binF Tryz.prog .shr t σ (.d (.int .u64 (v01 : Nat))) (.d (.int .u64 8)) = some (.d (.int .u64 (v011 : Nat))) := fun t σ => by rw [hv011]; exact u64_shr v01 .u64 8 (by omega)
        have wn' : IntKind.i64.wrap 24 = 24 := rfl
        simp only [↓RP, RS, Int.reduceBEq, Int.reduceBNe, Int.reduceLT, Int.reduceLE, Int.reduceAdd, Int.reduceSub, ↓reduceIte, Nat.reduceAdd, Nat.reduceMul, Nat.reduceSub, Nat.reduceLT, Nat.reduceLeDiff, Nat.reduceEqDiff, decide_true, decide_false, fieldAddrF, undE, tupE, g, g', sh, wn']
        have hv : v011 < 256 := by omega
        have cv : ∀ σ, cvF Tryz.prog 218 5 σ (.d (.int .u64 (v011 : Nat))) = some (.d (.int .u8 (v011 : Nat)), σ) := fun σ => cv_u8' v011 hv σ
        simp only [↓RP, RS, Int.reduceBEq, Int.reduceBNe, Int.reduceLT, Int.reduceLE, Int.reduceAdd, Int.reduceSub, ↓reduceIte, Nat.reduceAdd, Nat.reduceMul, Nat.reduceSub, Nat.reduceLT, Nat.reduceLeDiff, Nat.reduceEqDiff, decide_true, decide_false, fieldAddrF, undE, tupE, cv]
        refine BindV_at (v := .d (.int .u8 (bitLen 8 v011 : Nat))) (tab256 (fun w => indexF Tryz.prog 9 _ (.d (.int .u8 (w : Nat)))) (fun w => .d (.int .u8 (bitLen 8 w : Nat))) (by kernel_rfl) hv) ?_
        have hb8 := bitLen8 v011
        have wa : IntKind.i64.wrap ((24 : Int) + ((bitLen 8 v011 : Nat) : Int)) = ((bitLen 64 x : Nat) : Int) := by
          rw [IntWalk.i64_in _ (by omega), hb011]; omega
        simp only [↓RP, RS, Int.reduceBEq, Int.reduceBNe, Int.reduceLT, Int.reduceLE, Int.reduceAdd, Int.reduceSub, ↓reduceIte, Nat.reduceAdd, Nat.reduceMul, Nat.reduceSub, Nat.reduceLT, Nat.reduceLeDiff, Nat.reduceEqDiff, decide_true, decide_false, fieldAddrF, undE, tupE, cv_u8i _ hb8, wa]
        refine hK.fin (r := .d (.int .i64 (bitLen 64 x : Nat))) ?_ (Fin.none0 _ _ rfl) ⟨rfl, rfl⟩
        simp only [e118, resF, resAll, resOne, List.getD_cons_zero, List.getD_cons_succ]
      · have g : decide ((256 : Int) ≤ (v01 : Int)) = false := by simpa using (by omega : (v01 : Int) < 256)
        have g' : decide ((v01 : Int) ≥ 256) = false := g
        have e : bitLen 16 v01 = bitLen 8 v01 := bitLen_more 8 v01 8 (by omega)
        have hb010 : bitLen 64 x = 16 + bitLen 8 v01 := by rw [hb01, e]
        simp only [↓RP, RS, Int.reduceBEq, Int.reduceBNe, Int.reduceLT, Int.reduceLE, Int.reduceAdd, Int.reduceSub, ↓reduceIte, Nat.reduceAdd, Nat.reduceMul, Nat.reduceSub, Nat.reduceLT, Nat.reduceLeDiff, Nat.reduceEqDiff, decide_true, decide_false, fieldAddrF, undE, tupE, g, g']
        have hv : v01 < 256 := by omega
        have cv : ∀ σ, cvF Tryz.prog 218 5 σ (.d (.int .u64 (v01 : Nat))) = some (.d (.int .u8 (v01 : Nat)), σ) := fun σ => cv_u8' v01 hv σ
        simp only [↓RP, RS, Int.reduceBEq, Int.reduceBNe, Int.reduceLT, Int.reduceLE, Int.reduceAdd, Int.reduceSub, ↓reduceIte, Nat.reduceAdd, Nat.reduceMul, Nat.reduceSub, Nat.reduceLT, Nat.reduceLeDiff, Nat.reduceEqDiff, decide_true, decide_false, fieldAddrF, undE, tupE, cv]
        refine BindV_at (v := .d (.int .u8 (bitLen 8 v01 : Nat))) (tab256 (fun w => indexF Tryz.prog 9 _ (.d (.int .u8 (w : Nat)))) (fun w => .d (.int .u8 (bitLen 8 w : Nat))) (by kernel_rfl) hv) ?_
        have hb8 := bitLen8 v01
        have wa : IntKind.i64.wrap ((16 : Int) + ((bitLen 8 v01 : Nat) : Int)) = ((bitLen 64 x : Nat) : Int) := by
          rw [IntWalk.i64_in _ (by omega), hb010]; omega
        simp only [↓RP, RS, Int.reduceBEq, Int.reduceBNe, Int.reduceLT, Int.reduceLE, Int.reduceAdd, Int.reduceSub, ↓reduceIte, Nat.reduceAdd, Nat.reduceMul, Nat.reduceSub, Nat.reduceLT, Nat.reduceLeDiff, Nat.reduceEqDiff, decide_true, decide_false, fieldAddrF, undE, tupE, cv_u8i _ hb8, wa]
        refine hK.fin (r := .d (.int .i64 (bitLen 64 x : Nat))) ?_ (Fin.none0 _ _ rfl) ⟨rfl, rfl⟩
        simp only [e118, resF, resAll, resOne, List.getD_cons_zero, List.getD_cons_succ]
    · have g : decide ((65536 : Int) ≤ (x : Int)) = false := by simpa using (by omega : (x : Int) < 65536)
      have g' : decide ((x : Int) ≥ 65536) = false := g
      have e : bitLen 32 x = bitLen 16 x := bitLen_more 16 x 16 (by omega)
      have hb00 : bitLen 64 x = 0 + bitLen 16 x := by rw [hb0, e]
      simp only [↓RP, RS, Int.reduceBEq, Int.reduceBNe, Int.reduceLT, Int.reduceLE, Int.reduceAdd, Int.reduceSub, ↓reduceIte, Nat.reduceAdd, Nat.reduceMul, Nat.reduceSub, Nat.reduceLT, Nat.reduceLeDiff, Nat.reduceEqDiff, decide_true, decide_false, fieldAddrF, undE, tupE, g, g']
      by_cases h00 : 256 ≤ x
      · have g : decide ((256 : Int) ≤ (x : Int)) = true := by simpa using (by omega : (256 : Int) ≤ x)
        have g' : decide ((x : Int) ≥ 256) = true := g
        refine with_eq' (x / 256) ?_
        intro v001 hv001
        have e : bitLen 16 x = 8 + bitLen 8 (x / 256) := bitLen_shift 8 8 x (by omega)
        have hb001 : bitLen 64 x = 8 + bitLen 8 v001 := by rw [hb00, e, ← hv001]; omega
        have sh : ∀ t σ, binF Tryz.prog .shr t σ (.d (.int .u64 (x : Nat))) (.d (.int .u64 8)) = some (.d (.int .u64 (v001 : Nat))) := fun t σ => by rw [hv001]; exact u64_shr x .u64 8 (by omega)
        have wn' : IntKind.i64.wrap 8 = 8 := rfl
        simp only [↓RP, RS, Int.reduceBEq, Int.reduceBNe, Int.reduceLT, Int.reduceLE, Int.reduceAdd, Int.reduceSub, ↓reduceIte, Nat.reduceAdd, Nat.reduceMul, Nat.reduceSub, Nat.reduceLT, Nat.reduceLeDiff, Nat.reduceEqDiff, decide_true, decide_false, fieldAddrF, undE, tupE, g, g', sh, wn']
        have hv : v001 < 256 := by omega
        have cv : ∀ σ, cvF Tryz.prog 218 5 σ (.d (.int .u64 (v001 : Nat))) = some (.d (.int .u8 (v001 : Nat)), σ) := fun σ => cv_u8' v001 hv σ
        simp only [↓RP, RS, Int.reduceBEq, Int.reduceBNe, Int.reduceLT, Int.reduceLE, Int.reduceAdd, Int.reduceSub, ↓reduceIte, Nat.reduceAdd, Nat.reduceMul, Nat.reduceSub, Nat.reduceLT, Nat.reduceLeDiff, Nat.reduceEqDiff, decide_true, decide_false, fieldAddrF, undE, tupE, cv]
        refine BindV_at (v := .d (.int .u8 (bitLen 8 v001 : Nat))) (tab256 (fun w => indexF Tryz.prog 9 _ (.d (.int .u8 (w : Nat)))) (fun w => .d (.int .u8 (bitLen 8 w : Nat))) (by kernel_rfl) hv) ?_
        have hb8 := bitLen8 v001
        have wa : IntKind.i64.wrap ((8 : Int) + ((bitLen 8 v001 : Nat) : Int)) = ((bitLen 64 x : Nat) : Int) := by
          rw [IntWalk.i64_in _ (by omega), hb001]; omega
        simp only [↓RP, RS, Int.reduceBEq, Int.reduceBNe, Int.reduceLT, Int.reduceLE, Int.reduceAdd, Int.reduceSub, ↓reduceIte, Nat.reduceAdd, Nat.reduceMul, Nat.reduceSub, Nat.reduceLT, Nat.reduceLeDiff, Nat.reduceEqDiff, decide_true, decide_false, fieldAddrF, undE, tupE, cv_u8i _ hb8, wa]
        refine hK.fin (r := .d (.int .i64 (bitLen 64 x : Nat))) ?_ (Fin.none0 _ _ rfl) ⟨rfl, rfl⟩
        simp only [e118, resF, resAll, resOne, List.getD_cons_zero, List.getD_cons_succ]
      · have g : decide ((256 : Int) ≤ (x : Int)) = false := by simpa using (by omega : (x : Int) < 256)
        have g' : decide ((x : Int) ≥ 256) = false := g
        have e : bitLen 16 x = bitLen 8 x := bitLen_more 8 x 8 (by omega)
        have hb000 : bitLen 64 x = 0 + bitLen 8 x := by rw [hb00, e]
        simp only [↓RP, RS, Int.reduceBEq, Int.reduceBNe, Int.reduceLT, Int.reduceLE, Int.reduceAdd, Int.reduceSub, ↓reduceIte, Nat.reduceAdd, Nat.reduceMul, Nat.reduceSub, Nat.reduceLT, Nat.reduceLeDiff, Nat.reduceEqDiff, decide_true, decide_false, fieldAddrF, undE, tupE, g, g']
        have hv : x < 256 := by omega
        have cv : ∀ σ, cvF Tryz.prog 218 5 σ (.d (.int .u64 (x : Nat))) = some (.d (.int .u8 (x : Nat)), σ) := fun σ => cv_u8' x hv σ
        simp only [↓RP, RS, Int.reduceBEq, Int.reduceBNe, Int.reduceLT, Int.reduceLE, Int.reduceAdd, Int.reduceSub, ↓reduceIte, Nat.reduceAdd, Nat.reduceMul, Nat.reduceSub, Nat.reduceLT, Nat.reduceLeDiff, Nat.reduceEqDiff, decide_true, decide_false, fieldAddrF, undE, tupE, cv]
        refine BindV_at (v := .d (.int .u8 (bitLen 8 x : Nat))) (tab256 (fun w => indexF Tryz.prog 9 _ (.d (.int .u8 (w : Nat)))) (fun w => .d (.int .u8 (bitLen 8 w : Nat))) (by kernel_rfl) hv) ?_
        have hb8 := bitLen8 x
        have wa : IntKind.i64.wrap ((0 : Int) + ((bitLen 8 x : Nat) : Int)) = ((bitLen 64 x : Nat) : Int) := by
          rw [IntWalk.i64_in _ (by omega), hb000]; omega
        simp only [↓RP, RS, Int.reduceBEq, Int.reduceBNe, Int.reduceLT, Int.reduceLE, Int.reduceAdd, Int.reduceSub, ↓reduceIte, Nat.reduceAdd, Nat.reduceMul, Nat.reduceSub, Nat.reduceLT, Nat.reduceLeDiff, Nat.reduceEqDiff, decide_true, decide_false, fieldAddrF, undE, tupE, cv_u8i _ hb8, wa]
        refine hK.fin (r := .d (.int .i64 (bitLen 64 x : Nat))) ?_ (Fin.none0 _ _ rfl) ⟨rfl, rfl⟩
        simp only [e118, resF, resAll, resOne, List.getD_cons_zero, List.getD_cons_succ]
end Go.Proofs.YteafabpedfgedaaGreatDoor.Am
end
/- Powers modulo the prime: the walks of residue, Rem64, mul, Mul and Exp. -/
section
set_option linter.unusedSimpArgs false
set_option linter.unusedVariables false
set_option maxRecDepth 10000
set_option maxHeartbeats 8000000
namespace Go.Proofs.YteafabpedfgedaaGreatDoor.Am
open Go Go.Proofs

theorem i64_rem (t : TypeId) (σ : List Ob) (a b : Nat) (h : b ≠ 0) : binF Tryz.prog .rem t σ (.d (.int .i64 a)) (.d (.int .i64 b)) = some (.d (.int .i64 (a % b : Nat))) := by
  have hb : ¬ ((b : Int) = 0) := by omega
  have e : (a : Int).tmod b = ((a % b : Nat) : Int) := IntWalk.up_tmod rfl rfl
  simp only [binF, intBin, if_true, if_neg hb, Option.map_some, e]
theorem residue_ok (a m : Nat) (h : m ≠ 0) (τ : List Ob) : callA Tryz.prog 176 [.d (.int .i64 a), .d (.int .i64 m)] τ fun r σ' => r = .d (.int .i64 (a % m : Nat)) ∧ σ' = τ := by
  refine callA_frozen ?_ τ rfl rfl
  refine w176.go fun K hK => ?_
  have e1 : decide (((a % m : Nat) : Int) < 0) = false := by simpa using (by omega : (0 : Int) ≤ ((a % m : Nat) : Int))
  simp only [e176, c176, p176, Tryz.f176, codeOf, comp, opsOf, stOf, cop, cstp, copAt, planFor, List.find?, List.find?_nil, Option.map_none, Option.getD_none, List.any_cons, List.any_nil, Stp.idx, Bool.or_false, Nat.reduceBEq, ↓RP, RS, Int.reduceBEq, Int.reduceBNe, Int.reduceLT, Int.reduceLE, Int.reduceAdd, Int.reduceSub, ↓reduceIte, Nat.reduceAdd, Nat.reduceMul, Nat.reduceSub, Nat.reduceLT, Nat.reduceLeDiff, Nat.reduceEqDiff, decide_true, decide_false, fieldAddrF, undE, tupE, i64_rem _ _ a m h, e1]
  refine hK.fin (r := .d (.int .i64 (a % m : Nat))) ?_ (Fin.none0 _ _ rfl) ⟨rfl, rfl⟩
  simp only [e176, resF, resAll, resOne, List.getD_cons_zero, List.getD_cons_succ]

theorem cv_iu (n : Nat) (h : n < 18446744073709551616) (σ : List Ob) : cvF Tryz.prog 3 218 σ (.d (.int .i64 (n : Int))) = some (.d (.int .u64 (n : Nat)), σ) := by
  simp only [cvF, convF, T3, T218, if_true, wrap_u64]
  rw [Nat.mod_eq_of_lt h]
theorem cv_ui (n : Nat) (h : n < 9223372036854775808) (σ : List Ob) : cvF Tryz.prog 218 3 σ (.d (.int .u64 (n : Int))) = some (.d (.int .i64 (n : Nat)), σ) := by
  have e : IntKind.i64.wrap (n : Int) = (n : Nat) := by rw [IntKind.wrap_i64]; omega
  simp only [cvF, convF, T3, T218, if_true, e]
theorem rem_law (M hi lo Y : Nat) : (hi % Y * M + lo) % Y = (hi * M + lo) % Y := by
  rw [Nat.add_mod, Nat.mul_mod, Nat.mod_mod, ← Nat.mul_mod, ← Nat.add_mod]

/-! ### the modulus 2305843009213693951 -/
theorem rem64_P (hi lo Z W : Nat) (h1 : lo < 18446744073709551616) (hZ : Z = hi % 2305843009213693951 * 18446744073709551616 + lo) (hW : Z % 2305843009213693951 = W) : callA Tryz.prog 309 [.d (.int .u64 hi), .d (.int .u64 lo), .d (.int .u64 2305843009213693951)] [] fun r σ' => r = .d (.int .u64 W) ∧ σ' = [] := by
  refine w309.go fun K hK => ?_
  have r1 : ∀ t σ, binF Tryz.prog .rem t σ (.d (.int .u64 hi)) (.d (.int .u64 2305843009213693951)) = some (.d (.int .u64 (hi % 2305843009213693951 : Nat))) := fun t σ => u64_rem hi 2305843009213693951 (by omega)
  simp only [e309, c309, p309, Tryz.f309, codeOf, comp, opsOf, stOf, cop, cstp, copAt, planFor, List.find?, List.find?_nil, Option.map_none, Option.getD_none, List.any_cons, List.any_nil, Stp.idx, Bool.or_false, Nat.reduceBEq, ↓RP, RS, Int.reduceBEq, Int.reduceBNe, Int.reduceLT, Int.reduceLE, Int.reduceAdd, Int.reduceSub, ↓reduceIte, Nat.reduceAdd, Nat.reduceMul, Nat.reduceSub, Nat.reduceLT, Nat.reduceLeDiff, Nat.reduceEqDiff, decide_true, decide_false, fieldAddrF, undE, tupE, r1]
  refine CallK_use' (div64_P (hi % 2305843009213693951) lo Z (Nat.mod_lt _ (by omega)) h1 hZ) fun r σ' q => ?_
  rw [hW] at q
  obtain ⟨⟨q, rfl⟩, rfl⟩ := q
  simp only [↓RP, RS, Int.reduceBEq, Int.reduceBNe, Int.reduceLT, Int.reduceLE, Int.reduceAdd, Int.reduceSub, ↓reduceIte, Nat.reduceAdd, Nat.reduceMul, Nat.reduceSub, Nat.reduceLT, Nat.reduceLeDiff, Nat.reduceEqDiff, decide_true, decide_false, fieldAddrF, undE, tupE]
  refine hK.fin (r := .d (.int .u64 W)) ?_ (Fin.none0 _ _ rfl) ⟨rfl, rfl⟩
  simp only [e309, resF, resAll, resOne, List.getD_cons_zero, List.getD_cons_succ]
theorem mul_P (a b W : Nat) (hW : a * b % 2305843009213693951 = W) (τ : List Ob) : callA Tryz.prog 201 [.d (.int .i64 a), .d (.int .i64 b), .d (.int .i64 2305843009213693951)] τ fun r σ' => r = .d (.int .i64 W) ∧ σ' = τ := by
  refine callA_frozen ?_ τ rfl rfl
  obtain ⟨x, hx⟩ : ∃ x, x = a % 2305843009213693951 := ⟨_, rfl⟩
  obtain ⟨y, hy⟩ : ∃ y, y = b % 2305843009213693951 := ⟨_, rfl⟩
  have hxl : x < 2305843009213693952 := by omega
  have hyl : y < 2305843009213693952 := by omega
  obtain ⟨hi, hhi⟩ : ∃ hi, hi = x * y / 18446744073709551616 := ⟨_, rfl⟩
  obtain ⟨lo, hlo⟩ : ∃ lo, lo = x * y % 18446744073709551616 := ⟨_, rfl⟩
  have hlol : lo < 18446744073709551616 := by omega
  have hxy : x * y = hi * 18446744073709551616 + lo := by rw [hhi, hlo]; exact (Nat.div_add_mod' _ _).symm
  obtain ⟨Z, hZ⟩ : ∃ Z, Z = hi % 2305843009213693951 * 18446744073709551616 + lo := ⟨_, rfl⟩
  have hZW : Z % 2305843009213693951 = W := by rw [hZ, rem_law, ← hxy, hx, hy, ← Nat.mul_mod, hW]
  have hWl : W < 9223372036854775808 := by rw [← hW]; exact Nat.lt_trans (Nat.mod_lt _ (by omega)) (by omega)
  have q1 := residue_ok a 2305843009213693951 (by omega) []
  have q2 := residue_ok b 2305843009213693951 (by omega) []
  have q3 := mul64_ok x y (by omega) (by omega) []
  rw [← hhi, ← hlo] at q3
  rw [← hx] at q1
  rw [← hy] at q2
  have q4 := rem64_P hi lo Z W hlol hZ hZW
  have c1 := cv_iu x (by omega)
  have c2 := cv_iu y (by omega)
  have c3 : ∀ σ, cvF Tryz.prog 3 218 σ (.d (.int .i64 2305843009213693951)) = some (.d (.int .u64 2305843009213693951), σ) := cv_iu 2305843009213693951 (by omega)
  have c4 := cv_ui W hWl
  clear hZ hxy hhi hlo hx hy hZW hW
  refine w201.go fun K hK => ?_
  simp only [e201, c201, p201, Tryz.f201, codeOf, comp, opsOf, stOf, cop, cstp, copAt, planFor, List.find?, List.find?_nil, Option.map_none, Option.getD_none, List.any_cons, List.any_nil, Stp.idx, Bool.or_false, Nat.reduceBEq, ↓RP, RS, Int.reduceBEq, Int.reduceBNe, Int.reduceLT, Int.reduceLE, Int.reduceAdd, Int.reduceSub, ↓reduceIte, Nat.reduceAdd, Nat.reduceMul, Nat.reduceSub, Nat.reduceLT, Nat.reduceLeDiff, Nat.reduceEqDiff, decide_true, decide_false, fieldAddrF, undE, tupE]
  refine CallK_use' q1 fun r σ' q => ?_
  obtain ⟨rfl, rfl⟩ := q
  simp only [↓RP, RS, Int.reduceBEq, Int.reduceBNe, Int.reduceLT, Int.reduceLE, Int.reduceAdd, Int.reduceSub, ↓reduceIte, Nat.reduceAdd, Nat.reduceMul, Nat.reduceSub, Nat.reduceLT, Nat.reduceLeDiff, Nat.reduceEqDiff, decide_true, decide_false, fieldAddrF, undE, tupE, c1]
  refine CallK_use' q2 fun r σ' q => ?_
  obtain ⟨rfl, rfl⟩ := q
  simp only [↓RP, RS, Int.reduceBEq, Int.reduceBNe, Int.reduceLT, Int.reduceLE, Int.reduceAdd, Int.reduceSub, ↓reduceIte, Nat.reduceAdd, Nat.reduceMul, Nat.reduceSub, Nat.reduceLT, Nat.reduceLeDiff, Nat.reduceEqDiff, decide_true, decide_false, fieldAddrF, undE, tupE, c2]
  refine CallK_use' q3 fun r σ' q => ?_
  obtain ⟨rfl, rfl⟩ := q
  simp only [↓RP, RS, Int.reduceBEq, Int.reduceBNe, Int.reduceLT, Int.reduceLE, Int.reduceAdd, Int.reduceSub, ↓reduceIte, Nat.reduceAdd, Nat.reduceMul, Nat.reduceSub, Nat.reduceLT, Nat.reduceLeDiff, Nat.reduceEqDiff, decide_true, decide_false, fieldAddrF, undE, tupE, c3]
  refine CallK_use' q4 fun r σ' q => ?_
  obtain ⟨rfl, rfl⟩ := q
  simp only [↓RP, RS, Int.reduceBEq, Int.reduceBNe, Int.reduceLT, Int.reduceLE, Int.reduceAdd, Int.reduceSub, ↓reduceIte, Nat.reduceAdd, Nat.reduceMul, Nat.reduceSub, Nat.reduceLT, Nat.reduceLeDiff, Nat.reduceEqDiff, decide_true, decide_false, fieldAddrF, undE, tupE, c4]
  refine hK.fin (r := .d (.int .i64 W)) ?_ (Fin.none0 _ _ rfl) ⟨rfl, rfl⟩
  simp only [e201, resF, resAll, resOne, List.getD_cons_zero, List.getD_cons_succ]

/-! ### the modulus 2305843009213693950 -/
theorem rem64_N (hi lo Z W : Nat) (h1 : lo < 18446744073709551616) (hZ : Z = hi % 2305843009213693950 * 18446744073709551616 + lo) (hW : Z % 2305843009213693950 = W) : callA Tryz.prog 309 [.d (.int .u64 hi), .d (.int .u64 lo), .d (.int .u64 2305843009213693950)] [] fun r σ' => r = .d (.int .u64 W) ∧ σ' = [] := by
  refine w309.go fun K hK => ?_
  have r1 : ∀ t σ, binF Tryz.prog .rem t σ (.d (.int .u64 hi)) (.d (.int .u64 2305843009213693950)) = some (.d (.int .u64 (hi % 2305843009213693950 : Nat))) := fun t σ => u64_rem hi 2305843009213693950 (by omega)
  simp only [e309, c309, p309, Tryz.f309, codeOf, comp, opsOf, stOf, cop, cstp, copAt, planFor, List.find?, List.find?_nil, Option.map_none, Option.getD_none, List.any_cons, List.any_nil, Stp.idx, Bool.or_false, Nat.reduceBEq, ↓RP, RS, Int.reduceBEq, Int.reduceBNe, Int.reduceLT, Int.reduceLE, Int.reduceAdd, Int.reduceSub, ↓reduceIte, Nat.reduceAdd, Nat.reduceMul, Nat.reduceSub, Nat.reduceLT, Nat.reduceLeDiff, Nat.reduceEqDiff, decide_true, decide_false, fieldAddrF, undE, tupE, r1]
  refine CallK_use' (div64_N (hi % 2305843009213693950) lo Z (Nat.mod_lt _ (by omega)) h1 hZ) fun r σ' q => ?_
  rw [hW] at q
  obtain ⟨⟨q, rfl⟩, rfl⟩ := q
  simp only [↓RP, RS, Int.reduceBEq, Int.reduceBNe, Int.reduceLT, Int.reduceLE, Int.reduceAdd, Int.reduceSub, ↓reduceIte, Nat.reduceAdd, Nat.reduceMul, Nat.reduceSub, Nat.reduceLT, Nat.reduceLeDiff, Nat.reduceEqDiff, decide_true, decide_false, fieldAddrF, undE, tupE]
  refine hK.fin (r := .d (.int .u64 W)) ?_ (Fin.none0 _ _ rfl) ⟨rfl, rfl⟩
  simp only [e309, resF, resAll, resOne, List.getD_cons_zero, List.getD_cons_succ]
theorem mul_N (a b W : Nat) (hW : a * b % 2305843009213693950 = W) (τ : List Ob) : callA Tryz.prog 201 [.d (.int .i64 a), .d (.int .i64 b), .d (.int .i64 2305843009213693950)] τ fun r σ' => r = .d (.int .i64 W) ∧ σ' = τ := by
  refine callA_frozen ?_ τ rfl rfl
  obtain ⟨x, hx⟩ : ∃ x, x = a % 2305843009213693950 := ⟨_, rfl⟩
  obtain ⟨y, hy⟩ : ∃ y, y = b % 2305843009213693950 := ⟨_, rfl⟩
  have hxl : x < 2305843009213693952 := by omega
  have hyl : y < 2305843009213693952 := by omega
  obtain ⟨hi, hhi⟩ : ∃ hi, hi = x * y / 18446744073709551616 := ⟨_, rfl⟩
  obtain ⟨lo, hlo⟩ : ∃ lo, lo = x * y % 18446744073709551616 := ⟨_, rfl⟩
  have hlol : lo < 18446744073709551616 := by omega
  have hxy : x * y = hi * 18446744073709551616 + lo := by rw [hhi, hlo]; exact (Nat.div_add_mod' _ _).symm
  obtain ⟨Z, hZ⟩ : ∃ Z, Z = hi % 2305843009213693950 * 18446744073709551616 + lo := ⟨_, rfl⟩
  have hZW : Z % 2305843009213693950 = W := by rw [hZ, rem_law, ← hxy, hx, hy, ← Nat.mul_mod, hW]
  have hWl : W < 9223372036854775808 := by rw [← hW]; exact Nat.lt_trans (Nat.mod_lt _ (by omega)) (by omega)
  have q1 := residue_ok a 2305843009213693950 (by omega) []
  have q2 := residue_ok b 2305843009213693950 (by omega) []
  have q3 := mul64_ok x y (by omega) (by omega) []
  rw [← hhi, ← hlo] at q3
  rw [← hx] at q1
  rw [← hy] at q2
  have q4 := rem64_N hi lo Z W hlol hZ hZW
  have c1 := cv_iu x (by omega)
  have c2 := cv_iu y (by omega)
  have c3 : ∀ σ, cvF Tryz.prog 3 218 σ (.d (.int .i64 2305843009213693950)) = some (.d (.int .u64 2305843009213693950), σ) := cv_iu 2305843009213693950 (by omega)
  have c4 := cv_ui W hWl
  clear hZ hxy hhi hlo hx hy hZW hW
  refine w201.go fun K hK => ?_
  simp only [e201, c201, p201, Tryz.f201, codeOf, comp, opsOf, stOf, cop, cstp, copAt, planFor, List.find?, List.find?_nil, Option.map_none, Option.getD_none, List.any_cons, List.any_nil, Stp.idx, Bool.or_false, Nat.reduceBEq, ↓RP, RS, Int.reduceBEq, Int.reduceBNe, Int.reduceLT, Int.reduceLE, Int.reduceAdd, Int.reduceSub, ↓reduceIte, Nat.reduceAdd, Nat.reduceMul, Nat.reduceSub, Nat.reduceLT, Nat.reduceLeDiff, Nat.reduceEqDiff, decide_true, decide_false, fieldAddrF, undE, tupE]
  refine CallK_use' q1 fun r σ' q => ?_
  obtain ⟨rfl, rfl⟩ := q
  simp only [↓RP, RS, Int.reduceBEq, Int.reduceBNe, Int.reduceLT, Int.reduceLE, Int.reduceAdd, Int.reduceSub, ↓reduceIte, Nat.reduceAdd, Nat.reduceMul, Nat.reduceSub, Nat.reduceLT, Nat.reduceLeDiff, Nat.reduceEqDiff, decide_true, decide_false, fieldAddrF, undE, tupE, c1]
  refine CallK_use' q2 fun r σ' q => ?_
  obtain ⟨rfl, rfl⟩ := q
  simp only [↓RP, RS, Int.reduceBEq, Int.reduceBNe, Int.reduceLT, Int.reduceLE, Int.reduceAdd, Int.reduceSub, ↓reduceIte, Nat.reduceAdd, Nat.reduceMul, Nat.reduceSub, Nat.reduceLT, Nat.reduceLeDiff, Nat.reduceEqDiff, decide_true, decide_false, fieldAddrF, undE, tupE, c2]
  refine CallK_use' q3 fun r σ' q => ?_
  obtain ⟨rfl, rfl⟩ := q
  simp only [↓RP, RS, Int.reduceBEq, Int.reduceBNe, Int.reduceLT, Int.reduceLE, Int.reduceAdd, Int.reduceSub, ↓reduceIte, Nat.reduceAdd, Nat.reduceMul, Nat.reduceSub, Nat.reduceLT, Nat.reduceLeDiff, Nat.reduceEqDiff, decide_true, decide_false, fieldAddrF, undE, tupE, c3]
  refine CallK_use' q4 fun r σ' q => ?_
  obtain ⟨rfl, rfl⟩ := q
  simp only [↓RP, RS, Int.reduceBEq, Int.reduceBNe, Int.reduceLT, Int.reduceLE, Int.reduceAdd, Int.reduceSub, ↓reduceIte, Nat.reduceAdd, Nat.reduceMul, Nat.reduceSub, Nat.reduceLT, Nat.reduceLeDiff, Nat.reduceEqDiff, decide_true, decide_false, fieldAddrF, undE, tupE, c4]
  refine hK.fin (r := .d (.int .i64 W)) ?_ (Fin.none0 _ _ rfl) ⟨rfl, rfl⟩
  simp only [e201, resF, resAll, resOne, List.getD_cons_zero, List.getD_cons_succ]

theorem Mul_ok (a b W : Nat) (hW : a * b % 2305843009213693951 = W) (τ : List Ob) : callA Tryz.prog 177 [.d (.int .i64 a), .d (.int .i64 b)] τ fun r σ' => r = .d (.int .i64 W) ∧ σ' = τ := by
  refine callA_frozen ?_ τ rfl rfl
  refine w177.go fun K hK => ?_
  simp only [e177, c177, p177, Tryz.f177, codeOf, comp, opsOf, stOf, cop, cstp, copAt, planFor, List.find?, List.find?_nil, Option.map_none, Option.getD_none, List.any_cons, List.any_nil, Stp.idx, Bool.or_false, Nat.reduceBEq, ↓RP, RS, Int.reduceBEq, Int.reduceBNe, Int.reduceLT, Int.reduceLE, Int.reduceAdd, Int.reduceSub, ↓reduceIte, Nat.reduceAdd, Nat.reduceMul, Nat.reduceSub, Nat.reduceLT, Nat.reduceLeDiff, Nat.reduceEqDiff, decide_true, decide_false, fieldAddrF, undE, tupE]
  refine CallK_use' (mul_P a b W hW []) fun r σ' q => ?_
  obtain ⟨rfl, rfl⟩ := q
  simp only [↓RP, RS, Int.reduceBEq, Int.reduceBNe, Int.reduceLT, Int.reduceLE, Int.reduceAdd, Int.reduceSub, ↓reduceIte, Nat.reduceAdd, Nat.reduceMul, Nat.reduceSub, Nat.reduceLT, Nat.reduceLeDiff, Nat.reduceEqDiff, decide_true, decide_false, fieldAddrF, undE, tupE]
  refine hK.fin (r := .d (.int .i64 W)) ?_ (Fin.none0 _ _ rfl) ⟨rfl, rfl⟩
  simp only [e177, resF, resAll, resOne, List.getD_cons_zero, List.getD_cons_succ]

/-! ### powers -/
theorem i64_shr (t : TypeId) (σ : List Ob) (a n b : Nat) (hn : n ≤ 64) (hb : b = a / 2 ^ n) : binF Tryz.prog .shr t σ (.d (.int .i64 a)) (.d (.int .i64 n)) = some (.d (.int .i64 b)) := by
  have h0 : ¬ ((n : Int) < 0) := by omega
  have hm : min (n : Int).toNat 64 = n := by simp; omega
  simp only [binF, intShift, if_neg h0, IntKind.bits, hm, Option.map_some, fdiv_nat, hb]
theorem i64_and1 (t : TypeId) (σ : List Ob) (a b : Nat) (hb : b = a % 2) : binF Tryz.prog .and t σ (.d (.int .i64 a)) (.d (.int .i64 1)) = some (.d (.int .i64 b)) := by
  show some (V.d (.int .i64 (IntKind.i64.wrap ((BitVec.ofInt 64 (a : Int) &&& BitVec.ofInt 64 ((1 : Nat) : Int)).toNat : Int)))) = _
  rw [bv_and, Nat.and_one_is_mod, ← hb]
  have : b % 2 ^ 64 = b := Nat.mod_eq_of_lt (by omega)
  rw [this]
  have e : IntKind.i64.wrap (b : Int) = (b : Int) := by rw [IntKind.wrap_i64]; omega
  rw [e]
theorem powGo_succ (k r p e : Nat) : powGo (k + 1) r p e = powGo k (if e % 2 = 1 then r * p % 2305843009213693951 else r) (p * p % 2305843009213693951) (e / 2) := by
  simp only [powGo, force_eq]

theorem exp_ok (a e : Nat) (he : e < 9223372036854775808) (τ : List Ob) : callA Tryz.prog 89 [.d (.int .i64 a), .d (.int .i64 e)] τ fun r σ' => r = .d (.int .i64 (powM a e : Nat)) ∧ σ' = τ := by
  refine callA_frozen ?_ τ rfl rfl
  obtain ⟨n, hn⟩ : ∃ n, n = bitLen 64 e := ⟨_, rfl⟩
  have hn64 : n ≤ 64 := hn ▸ bitLen_le 64 e
  obtain ⟨a0, ha0⟩ : ∃ a0, a0 = a % 2305843009213693951 := ⟨_, rfl⟩
  obtain ⟨W, hW⟩ : ∃ W, W = powM a e := ⟨_, rfl⟩
  have hW' : powGo n 1 a0 e = W := by rw [hW, hn, ha0]; rfl
  have q1 := residue_ok a 2305843009213693951 (by omega) []
  have q2 := len64_ok e (by omega) []
  rw [← hn] at q2
  rw [← ha0] at q1
  rw [← hW]
  have c1 := cv_iu e (by omega)
  have e0 : decide ((e : Int) < 0) = false := by simp
  clear hW hn
  refine w89.go fun K hK => ?_
  simp only [e89, c89, p89, Tryz.f89, codeOf, comp, opsOf, stOf, cop, cstp, copAt, planFor, List.find?, List.find?_nil, Option.map_none, Option.getD_none, List.any_cons, List.any_nil, Stp.idx, Bool.or_false, Nat.reduceBEq, ↓RP, RS, Int.reduceBEq, Int.reduceBNe, Int.reduceLT, Int.reduceLE, Int.reduceAdd, Int.reduceSub, ↓reduceIte, Nat.reduceAdd, Nat.reduceMul, Nat.reduceSub, Nat.reduceLT, Nat.reduceLeDiff, Nat.reduceEqDiff, decide_true, decide_false, fieldAddrF, undE, tupE, e0]
  refine CallK_use' q1 fun r σ' q => ?_
  obtain ⟨rfl, rfl⟩ := q
  simp only [↓RP, RS, Int.reduceBEq, Int.reduceBNe, Int.reduceLT, Int.reduceLE, Int.reduceAdd, Int.reduceSub, ↓reduceIte, Nat.reduceAdd, Nat.reduceMul, Nat.reduceSub, Nat.reduceLT, Nat.reduceLeDiff, Nat.reduceEqDiff, decide_true, decide_false, fieldAddrF, undE, tupE, c1]
  refine CallK_use' q2 fun r σ' q => ?_
  obtain ⟨rfl, rfl⟩ := q
  simp only [↓RP, RS, Int.reduceBEq, Int.reduceBNe, Int.reduceLT, Int.reduceLE, Int.reduceAdd, Int.reduceSub, ↓reduceIte, Nat.reduceAdd, Nat.reduceMul, Nat.reduceSub, Nat.reduceLT, Nat.reduceLeDiff, Nat.reduceEqDiff, decide_true, decide_false, fieldAddrF, undE, tupE]
  refine Loop_k [1, 5, 6, 16, 17] (fun x : Nat × Nat × Nat => fr 0 33 [(1, .d (.int .i64 e)), (5, .d (.int .i64 x.2.1)), (6, .d (.int .i64 x.2.2)), (16, .d (.int .i64 n)), (17, .d (.int .i64 x.1))]) (fun _ => []) (fun x => x.1 ≤ n ∧ powGo (n - x.1) x.2.1 x.2.2 (e / 2 ^ x.1) = W) (fun x => n - x.1) (0, 1, a0) (by kernel_rfl) rfl ⟨Nat.zero_le _, by simpa using hW'⟩ fun x hx => ?_
  obtain ⟨i, r, p⟩ := x
  obtain ⟨h1, h2⟩ := hx
  simp only at h1 h2
  by_cases hlt : i < n
  · have e1 : decide ((i : Int) < (n : Int)) = true := by simpa using (by omega : (i : Int) < n)
    rw [show n - i = (n - (i + 1)) + 1 by omega, powGo_succ, Nat.div_div_eq_div_mul, ← Nat.pow_succ] at h2
    refine with_eq (e / 2 ^ i) fun s hs => ?_
    have s1 := fun t σ => i64_shr t σ e i s (by omega) hs
    refine with_eq (s % 2) fun b hb => ?_
    have s2 := fun t σ => i64_and1 t σ s b hb
    refine with_eq (p * p % 2305843009213693951) fun pp hpp => ?_
    have w1 : IntKind.i64.wrap ((i : Int) + 1) = ((i + 1 : Nat) : Int) := by rw [IntKind.wrap_i64]; omega
    rw [← hs, ← hb, ← hpp] at h2
    by_cases hb1 : b = 1
    · have e2 : ((b : Int) == 1) = true := by simpa using (by omega : (b : Int) = 1)
      refine with_eq (r * p % 2305843009213693951) fun rp hrp => ?_
      rw [if_pos hb1, ← hrp] at h2
      simp only [fr, ↓RP, RS, Int.reduceBEq, Int.reduceBNe, Int.reduceLT, Int.reduceLE, Int.reduceAdd, Int.reduceSub, ↓reduceIte, Nat.reduceAdd, Nat.reduceMul, Nat.reduceSub, Nat.reduceLT, Nat.reduceLeDiff, Nat.reduceEqDiff, decide_true, decide_false, fieldAddrF, undE, tupE, e1, s1, s2, e2]
      refine CallK_use' (Mul_ok r p rp hrp.symm []) fun r' σ' q => ?_
      obtain ⟨rfl, rfl⟩ := q
      simp only [↓RP, RS, Int.reduceBEq, Int.reduceBNe, Int.reduceLT, Int.reduceLE, Int.reduceAdd, Int.reduceSub, ↓reduceIte, Nat.reduceAdd, Nat.reduceMul, Nat.reduceSub, Nat.reduceLT, Nat.reduceLeDiff, Nat.reduceEqDiff, decide_true, decide_false, fieldAddrF, undE, tupE]
      refine CallK_use' (Mul_ok p p pp hpp.symm []) fun r' σ' q => ?_
      obtain ⟨rfl, rfl⟩ := q
      simp only [↓RP, RS, Int.reduceBEq, Int.reduceBNe, Int.reduceLT, Int.reduceLE, Int.reduceAdd, Int.reduceSub, ↓reduceIte, Nat.reduceAdd, Nat.reduceMul, Nat.reduceSub, Nat.reduceLT, Nat.reduceLeDiff, Nat.reduceEqDiff, decide_true, decide_false, fieldAddrF, undE, tupE, w1]
      refine seqK_n ?_
      exact ⟨(i + 1, rp, pp), ⟨hlt, h2⟩, by show n - (i + 1) < n - i; omega, by kernel_rfl, rfl⟩
    · have e2 : ((b : Int) == 1) = false := by simpa using (by omega : ¬ (b : Int) = 1)
      rw [if_neg hb1] at h2
      simp only [fr, ↓RP, RS, Int.reduceBEq, Int.reduceBNe, Int.reduceLT, Int.reduceLE, Int.reduceAdd, Int.reduceSub, ↓reduceIte, Nat.reduceAdd, Nat.reduceMul, Nat.reduceSub, Nat.reduceLT, Nat.reduceLeDiff, Nat.reduceEqDiff, decide_true, decide_false, fieldAddrF, undE, tupE, e1, s1, s2, e2]
      refine CallK_use' (Mul_ok p p pp hpp.symm []) fun r' σ' q => ?_
      obtain ⟨rfl, rfl⟩ := q
      simp only [↓RP, RS, Int.reduceBEq, Int.reduceBNe, Int.reduceLT, Int.reduceLE, Int.reduceAdd, Int.reduceSub, ↓reduceIte, Nat.reduceAdd, Nat.reduceMul, Nat.reduceSub, Nat.reduceLT, Nat.reduceLeDiff, Nat.reduceEqDiff, decide_true, decide_false, fieldAddrF, undE, tupE, w1]
      refine seqK_n ?_
      exact ⟨(i + 1, r, pp), ⟨hlt, h2⟩, by show n - (i + 1) < n - i; omega, by kernel_rfl, rfl⟩
  · have e1 : decide ((i : Int) < (n : Int)) = false := by simpa using (by omega : (n : Int) ≤ i)
    have e3 : n - i = 0 := by omega
    rw [e3] at h2
    simp only [powGo] at h2
    subst h2
    simp only [fr, ↓RP, RS, Int.reduceBEq, Int.reduceBNe, Int.reduceLT, Int.reduceLE, Int.reduceAdd, Int.reduceSub, ↓reduceIte, Nat.reduceAdd, Nat.reduceMul, Nat.reduceSub, Nat.reduceLT, Nat.reduceLeDiff, Nat.reduceEqDiff, decide_true, decide_false, fieldAddrF, undE, tupE, e1]
    refine hK.fin (r := .d (.int .i64 r)) ?_ (Fin.none0 _ _ rfl) ⟨rfl, rfl⟩
    simp only [e89, resF, resAll, resOne, List.getD_cons_zero, List.getD_cons_succ]
end Go.Proofs.YteafabpedfgedaaGreatDoor.Am
end
/- The natives of the evaluator: Sha, Exp, Join, Strip, IndexByte. -/
section
set_option linter.unusedSimpArgs false
set_option linter.unusedVariables false
set_option maxRecDepth 10000
namespace Go.Proofs.YteafabpedfgedaaGreatDoor.Am
open Go Go.Proofs

noncomputable def natA : Nat' := fun f args σ => match f with
  | 49 => match args with
    | [.d (.str s)] => match Nat.ble s.length 1048576 with | true => openS (sha s) fun s => some (.d (.str s), σ) | false => none
    | _ => none
  | 89 => match args with
    | [.d (.int .i64 (.ofNat a)), .d (.int .i64 (.ofNat e))] => match Nat.ble e 9223372036854775807 with | true => openN (powM a e) fun n => some (.d (.int .i64 (n : Nat)), σ) | false => none
    | _ => none
  | 384 => match args with
    | [.d (.str s), .d (.int .u8 (.ofNat c))] => match Nat.ble c 255 with | true => openZ (Lib.indexByte s (UInt8.ofNat c)) fun n => some (.d (.int .i64 n), σ) | false => none
    | _ => none
  | f => natL f args σ
theorem natA_ok : CallOk Tryz.prog natA := fun f args σ v σ' h => by
  unfold natA at h
  split at h
  · split at h
    · split at h
      · rename_i hb
        rw [openS_eq] at h
        cases h
        exact sha_ok _ (by have := Nat.le_of_ble_eq_true hb; omega) σ
      · cases h
    · cases h
  · split at h
    · split at h
      · rename_i hb
        rw [openN_eq] at h
        cases h
        exact exp_ok _ _ (by have := Nat.le_of_ble_eq_true hb; omega) σ
      · cases h
    · cases h
  · split at h
    · rename_i s c
      split at h
      · rename_i hb
        rw [openZ_eq] at h
        cases h
        have hc := Nat.le_of_ble_eq_true hb
        have := indexB384 s (UInt8.ofNat c) σ
        rw [show ((UInt8.ofNat c).toNat : Int) = Int.ofNat c by rw [UInt8.toNat_ofNat']; simp; omega] at this
        exact this
      · cases h
    · cases h
  · exact natL_ok _ _ _ _ _ h
end Go.Proofs.YteafabpedfgedaaGreatDoor.Am
end
/- The layers of the evaluator: functions that are run from the empty store, so that each run is made once. -/
section
set_option linter.unusedVariables false
namespace Go.Proofs.YteafabpedfgedaaGreatDoor.Am
open Go Go.Proofs

noncomputable def ev0 : Nat' := evK Tryz.prog natA tab 60
noncomputable def nat1 : Nat' := pureN ev0 (fun f => [94, 53].contains f) natA
noncomputable def ev1 : Nat' := evK Tryz.prog nat1 tab 60
noncomputable def nat2 : Nat' := pureN ev1 (fun f => [56, 54, 99, 46, 17, 18, 45].contains f) nat1
noncomputable def ev2 : Nat' := evK Tryz.prog nat2 tab 60
noncomputable def nat3 : Nat' := pureN ev2 (fun f => [55, 105, 85, 123].contains f) nat2
noncomputable def ev3 : Nat' := evK Tryz.prog nat3 tab 60
noncomputable def nat4 : Nat' := pureN ev3 (fun f => [57, 20, 86].contains f) nat3
noncomputable def ev4 : Nat' := evK Tryz.prog nat4 tab 60
noncomputable def nat5 : Nat' := pureN ev4 (fun f => [21, 60].contains f) nat4
theorem nat1_ok : CallOk Tryz.prog nat1 := pureN_ok (evK_ok natA_ok tabOk 60) _ natA_ok
theorem nat2_ok : CallOk Tryz.prog nat2 := pureN_ok (evK_ok nat1_ok tabOk 60) _ nat1_ok
theorem nat3_ok : CallOk Tryz.prog nat3 := pureN_ok (evK_ok nat2_ok tabOk 60) _ nat2_ok
theorem nat4_ok : CallOk Tryz.prog nat4 := pureN_ok (evK_ok nat3_ok tabOk 60) _ nat3_ok
theorem nat5_ok : CallOk Tryz.prog nat5 := pureN_ok (evK_ok nat4_ok tabOk 60) _ nat4_ok
end Go.Proofs.YteafabpedfgedaaGreatDoor.Am
end
/- Literals of the small examples. -/
section
set_option maxRecDepth 100000
namespace Go.Proofs.YteafabpedfgedaaGreatDoor.Am
open Go Go.Proofs
def lCO : D := (.agg [(.lst 3 [(.agg [(.int .i64 21), (.int .i64 0), (.str [])]), (.agg [(.int .i64 5), (.int .i64 0), (.str [98, 117, 121])]), (.agg [(.int .i64 17), (.int .i64 7), (.str [])]), (.agg [(.int .i64 0), (.int .i64 2), (.str [])]), (.agg [(.int .i64 3), (.int .i64 0), (.str [97, 103, 101])]), (.agg [(.int .i64 13), (.int .i64 0), (.str [])]), (.agg [(.int .i64 16), (.int .i64 8), (.str [])]), (.agg [(.int .i64 0), (.int .i64 0), (.str [])]), (.agg [(.int .i64 17), (.int .i64 10), (.str [])]), (.agg [(.int .i64 22), (.int .i64 2), (.str [97, 100])]), (.agg [(.int .i64 22), (.int .i64 0), (.str [])])]), .nils, .nils, (.lst 1 [(.int .i64 0)])])
def lCS0 : D := (.lst 6 [(.agg [(.str [54, 48, 102, 99, 48, 101, 50, 99, 50, 57, 54, 98, 97, 49, 101, 50]), (.lst 20 [(.agg [(.str [54, 48, 102, 99, 48, 101, 50, 99, 50, 57, 54, 98, 97, 49, 101, 50]), (.int .i64 0), (.str []), (.int .i64 0), (.int .i64 0), (.str []), (.str []), (.int .i64 0), (.str []), .nils, (.str [97, 110, 110]), (.str []), (.str []), (.str []), (.int .i64 0), .nils, (.int .i64 1315308010189977391), (.int .i64 0), (.int .i64 1948496632443304981), (.int .i64 1030171923067840355)]), (.agg [(.str [54, 48, 102, 99, 48, 101, 50, 99, 50, 57, 54, 98, 97, 49, 101, 50]), (.int .i64 1), (.str [92, 52, 59, 229, 165, 180, 30, 120, 235, 129, 208, 247, 170, 32, 185, 163, 221, 142, 77, 198, 240, 13, 188, 195, 7, 184, 95, 107, 5, 28, 116, 15]), (.int .i64 1), (.int .i64 2), (.str []), (.str []), (.int .i64 0), (.str []), .nils, (.str [66, 117, 121, 32, 104, 116, 116, 112, 58, 47, 47, 120, 32, 110, 111, 119]), (.str []), (.str []), (.str []), (.int .i64 0), .nils, (.int .i64 0), (.int .i64 0), (.int .i64 1493162041440896407), (.int .i64 1281741860139484443)])]), (.lst 3 [(.agg [(.int .i64 0), (.int .i64 1315308010189977391), (.int .i64 0)])]), (.str [128, 118, 41, 67, 177, 208, 106, 85, 150, 213, 26, 72, 203, 151, 163, 101, 49, 64, 56, 76, 42, 65, 205, 74, 33, 195, 116, 44, 67, 182, 219, 27]), (.int .i64 0), (.bool .false)])])
def lFA : D := (.agg [.nils, (.int .i64 0), (.int .i64 0), (.int .i64 0), (.int .i64 0), (.int .i64 3), (.int .i64 0), (.int .i64 0), (.int .i64 16), (.bool false), (.bool false), (.lst 1 [(.str [98, 117, 121]), (.str [104, 116, 116, 112]), (.str [110, 111, 119]), (.str [120])])])
def lI0 : D := (.str [128, 118, 41, 67, 177, 208, 106, 85, 150, 213, 26, 72, 203, 151, 163, 101, 49, 64, 56, 76, 42, 65, 205, 74, 33, 195, 116, 44, 67, 182, 219, 27])
def lJ1 : D := .agg [.int .i64 0, .int .i64 0, .int .i64 2, .str [], lI0, .str [], .nils, .int .i64 0, .int .i64 0, .int .i64 9, .int .i64 0, .int .i64 0]
def lJ2 : D := .agg [.int .i64 0, .int .i64 1, .int .i64 9, .str [], .str [], .str [119, 104, 101, 110, 32, 119, 111, 114, 100, 40, 34, 98, 117, 121, 34, 41, 32, 97, 110, 100, 32, 97, 103, 101, 32, 62, 32, 50, 32, 116, 104, 101, 110, 32, 108, 105, 109, 105, 116, 32, 34, 97, 100, 34, 32, 100, 101, 102, 97, 117, 108, 116, 32, 115, 104, 111, 119], .nils, .int .i64 0, .int .i64 0, .int .i64 9, .int .i64 0, .int .i64 0]
def lK0 : D := .agg [(.lst 1 [(.int .i64 1378094269377104431), (.int .i64 1011127861422451315), (.int .i64 1480730995103563697)]), (.lst 49 [(.agg [(.int .i64 0), (.str [54, 48, 102, 99, 48, 101, 50, 99, 50, 57, 54, 98, 97, 49, 101, 50]), (.int .i64 0), (.str []), (.int .i64 0), (.int .i64 0), (.str []), (.str []), (.int .i64 0), (.str []), .nils, (.str [97, 110, 110]), (.str []), (.str []), (.str []), (.int .i64 0), .nils, (.int .i64 1315308010189977391), (.int .i64 0), (.int .i64 1948496632443304981), (.int .i64 1030171923067840355), (.str []), (.int .i64 0), (.str []), (.int .i64 0), (.int .i64 0), (.int .i64 0), (.int .i64 0), (.int .i64 0), (.int .i64 0), (.int .i64 0), (.str []), (.int .i64 0), (.str []), (.int .i64 0), (.int .i64 0), (.int .i64 0), (.int .i64 0), (.int .i64 0), (.int .i64 0), (.str []), (.str []), (.str []), .nils, (.int .i64 0), (.int .i64 0), (.int .i64 0), (.int .i64 0), (.int .i64 0)]), (.agg [(.int .i64 0), (.str [54, 48, 102, 99, 48, 101, 50, 99, 50, 57, 54, 98, 97, 49, 101, 50]), (.int .i64 1), (.str [92, 52, 59, 229, 165, 180, 30, 120, 235, 129, 208, 247, 170, 32, 185, 163, 221, 142, 77, 198, 240, 13, 188, 195, 7, 184, 95, 107, 5, 28, 116, 15]), (.int .i64 1), (.int .i64 2), (.str []), (.str []), (.int .i64 0), (.str []), .nils, (.str [66, 117, 121, 32, 104, 116, 116, 112, 58, 47, 47, 120, 32, 110, 111, 119]), (.str []), (.str []), (.str []), (.int .i64 0), .nils, (.int .i64 0), (.int .i64 0), (.int .i64 1493162041440896407), (.int .i64 1281741860139484443), (.str []), (.int .i64 0), (.str []), (.int .i64 0), (.int .i64 0), (.int .i64 0), (.int .i64 0), (.int .i64 0), (.int .i64 0), (.int .i64 0), (.str []), (.int .i64 0), (.str []), (.int .i64 0), (.int .i64 0), (.int .i64 0), (.int .i64 0), (.int .i64 0), (.int .i64 0), (.str []), (.str []), (.str []), .nils, (.int .i64 0), (.int .i64 0), (.int .i64 0), (.int .i64 0), (.int .i64 0)])])]
def lK1 : D := .agg [(.lst 1 [(.int .i64 1378094269377104431), (.int .i64 1011127861422451315), (.int .i64 1480730995103563697)]), (.lst 49 [(.agg [(.int .i64 0), (.str [54, 48, 102, 99, 48, 101, 50, 99, 50, 57, 54, 98, 97, 49, 101, 50]), (.int .i64 0), (.str []), (.int .i64 0), (.int .i64 0), (.str []), (.str []), (.int .i64 0), (.str []), .nils, (.str [97, 110, 110]), (.str []), (.str []), (.str []), (.int .i64 0), .nils, (.int .i64 1315308010189977391), (.int .i64 0), (.int .i64 1948496632443304981), (.int .i64 1030171923067840355), (.str []), (.int .i64 0), (.str []), (.int .i64 0), (.int .i64 0), (.int .i64 0), (.int .i64 0), (.int .i64 0), (.int .i64 0), (.int .i64 0), (.str []), (.int .i64 0), (.str []), (.int .i64 0), (.int .i64 0), (.int .i64 0), (.int .i64 0), (.int .i64 0), (.int .i64 0), (.str []), (.str []), (.str []), .nils, (.int .i64 0), (.int .i64 0), (.int .i64 0), (.int .i64 0), (.int .i64 0)]), (.agg [(.int .i64 0), (.str [54, 48, 102, 99, 48, 101, 50, 99, 50, 57, 54, 98, 97, 49, 101, 50]), (.int .i64 1), (.str [92, 52, 59, 229, 165, 180, 30, 120, 235, 129, 208, 247, 170, 32, 185, 163, 221, 142, 77, 198, 240, 13, 188, 195, 7, 184, 95, 107, 5, 28, 116, 15]), (.int .i64 1), (.int .i64 2), (.str []), (.str []), (.int .i64 0), (.str []), .nils, (.str [66, 117, 121, 32, 104, 116, 116, 112, 58, 47, 47, 120, 32, 110, 111, 119]), (.str []), (.str []), (.str []), (.int .i64 0), .nils, (.int .i64 0), (.int .i64 0), (.int .i64 1493162041440896407), (.int .i64 1281741860139484443), (.str []), (.int .i64 0), (.str []), (.int .i64 0), (.int .i64 0), (.int .i64 0), (.int .i64 0), (.int .i64 0), (.int .i64 0), (.int .i64 0), (.str []), (.int .i64 0), (.str []), (.int .i64 0), (.int .i64 0), (.int .i64 0), (.int .i64 0), (.int .i64 0), (.int .i64 0), (.str []), (.str []), (.str []), .nils, (.int .i64 0), (.int .i64 0), (.int .i64 0), (.int .i64 0), (.int .i64 0)]), (.agg [(.int .i64 3), (.str []), (.int .i64 0), (.str []), (.int .i64 0), (.int .i64 0), (.str []), (.str []), (.int .i64 0), (.str []), .nils, (.str []), (.str []), (.str []), (.str []), (.int .i64 0), .nils, (.int .i64 0), (.int .i64 0), (.int .i64 0), (.int .i64 0), (.str []), (.int .i64 0), (.str []), (.int .i64 0), (.int .i64 0), (.int .i64 0), (.int .i64 0), (.int .i64 0), (.int .i64 0), (.int .i64 0), (.str []), (.int .i64 0), (.str []), (.int .i64 0), (.int .i64 0), (.int .i64 0), (.int .i64 0), (.int .i64 0), (.int .i64 2), (.str []), (.str [128, 118, 41, 67, 177, 208, 106, 85, 150, 213, 26, 72, 203, 151, 163, 101, 49, 64, 56, 76, 42, 65, 205, 74, 33, 195, 116, 44, 67, 182, 219, 27]), (.str []), .nils, (.int .i64 0), (.int .i64 0), (.int .i64 9), (.int .i64 55275476959738176), (.int .i64 1485619764805838503)])])]
def lK2 : D := .agg [(.lst 1 [(.int .i64 1378094269377104431), (.int .i64 1011127861422451315), (.int .i64 1480730995103563697)]), (.lst 49 [(.agg [(.int .i64 0), (.str [54, 48, 102, 99, 48, 101, 50, 99, 50, 57, 54, 98, 97, 49, 101, 50]), (.int .i64 0), (.str []), (.int .i64 0), (.int .i64 0), (.str []), (.str []), (.int .i64 0), (.str []), .nils, (.str [97, 110, 110]), (.str []), (.str []), (.str []), (.int .i64 0), .nils, (.int .i64 1315308010189977391), (.int .i64 0), (.int .i64 1948496632443304981), (.int .i64 1030171923067840355), (.str []), (.int .i64 0), (.str []), (.int .i64 0), (.int .i64 0), (.int .i64 0), (.int .i64 0), (.int .i64 0), (.int .i64 0), (.int .i64 0), (.str []), (.int .i64 0), (.str []), (.int .i64 0), (.int .i64 0), (.int .i64 0), (.int .i64 0), (.int .i64 0), (.int .i64 0), (.str []), (.str []), (.str []), .nils, (.int .i64 0), (.int .i64 0), (.int .i64 0), (.int .i64 0), (.int .i64 0)]), (.agg [(.int .i64 0), (.str [54, 48, 102, 99, 48, 101, 50, 99, 50, 57, 54, 98, 97, 49, 101, 50]), (.int .i64 1), (.str [92, 52, 59, 229, 165, 180, 30, 120, 235, 129, 208, 247, 170, 32, 185, 163, 221, 142, 77, 198, 240, 13, 188, 195, 7, 184, 95, 107, 5, 28, 116, 15]), (.int .i64 1), (.int .i64 2), (.str []), (.str []), (.int .i64 0), (.str []), .nils, (.str [66, 117, 121, 32, 104, 116, 116, 112, 58, 47, 47, 120, 32, 110, 111, 119]), (.str []), (.str []), (.str []), (.int .i64 0), .nils, (.int .i64 0), (.int .i64 0), (.int .i64 1493162041440896407), (.int .i64 1281741860139484443), (.str []), (.int .i64 0), (.str []), (.int .i64 0), (.int .i64 0), (.int .i64 0), (.int .i64 0), (.int .i64 0), (.int .i64 0), (.int .i64 0), (.str []), (.int .i64 0), (.str []), (.int .i64 0), (.int .i64 0), (.int .i64 0), (.int .i64 0), (.int .i64 0), (.int .i64 0), (.str []), (.str []), (.str []), .nils, (.int .i64 0), (.int .i64 0), (.int .i64 0), (.int .i64 0), (.int .i64 0)]), (.agg [(.int .i64 3), (.str []), (.int .i64 0), (.str []), (.int .i64 0), (.int .i64 0), (.str []), (.str []), (.int .i64 0), (.str []), .nils, (.str []), (.str []), (.str []), (.str []), (.int .i64 0), .nils, (.int .i64 0), (.int .i64 0), (.int .i64 0), (.int .i64 0), (.str []), (.int .i64 0), (.str []), (.int .i64 0), (.int .i64 0), (.int .i64 0), (.int .i64 0), (.int .i64 0), (.int .i64 0), (.int .i64 0), (.str []), (.int .i64 0), (.str []), (.int .i64 0), (.int .i64 0), (.int .i64 0), (.int .i64 0), (.int .i64 1), (.int .i64 9), (.str []), (.str []), (.str [119, 104, 101, 110, 32, 119, 111, 114, 100, 40, 34, 98, 117, 121, 34, 41, 32, 97, 110, 100, 32, 97, 103, 101, 32, 62, 32, 50, 32, 116, 104, 101, 110, 32, 108, 105, 109, 105, 116, 32, 34, 97, 100, 34, 32, 100, 101, 102, 97, 117, 108, 116, 32, 115, 104, 111, 119]), .nils, (.int .i64 0), (.int .i64 0), (.int .i64 9), (.int .i64 1106796454232284213), (.int .i64 1591452743405464036)])])]
def lP0 : D := (.agg [(.str [128, 118, 41, 67, 177, 208, 106, 85, 150, 213, 26, 72, 203, 151, 163, 101, 49, 64, 56, 76, 42, 65, 205, 74, 33, 195, 116, 44, 67, 182, 219, 27]), (.str [54, 48, 102, 99, 48, 101, 50, 99, 50, 57, 54, 98, 97, 49, 101, 50]), (.int .i64 1), (.int .i64 1), (.int .i64 0), (.str []), .nils, (.str []), (.int .i64 2), .nils, (.bool false)])
def lPR : D := (.agg [(.agg [.nils, (.lst 6 [(.agg [(.int .i64 16), (.int .i64 0), (.str []), (.lst 4 [(.agg [(.int .i64 5), (.int .i64 0), (.str [98, 117, 121]), .nils]), (.agg [(.int .i64 13), (.int .i64 0), (.str []), (.lst 4 [(.agg [(.int .i64 0), (.int .i64 2), (.str []), .nils]), (.agg [(.int .i64 3), (.int .i64 0), (.str [97, 103, 101]), .nils])])])]), (.int .i64 2), (.str [97, 100])])]), (.int .i64 0)]), (.int .i64 0), (.int .i64 0)])
def lRN : D := (.agg [(.int .i64 2), (.str [97, 100]), (.int .i64 1), (.int .i64 0)])
def lRU : D := (.agg [.nils, (.lst 6 [(.agg [(.int .i64 16), (.int .i64 0), (.str []), (.lst 4 [(.agg [(.int .i64 5), (.int .i64 0), (.str [98, 117, 121]), .nils]), (.agg [(.int .i64 13), (.int .i64 0), (.str []), (.lst 4 [(.agg [(.int .i64 0), (.int .i64 2), (.str []), .nils]), (.agg [(.int .i64 3), (.int .i64 0), (.str [97, 103, 101]), .nils])])])]), (.int .i64 2), (.str [97, 100])])]), (.int .i64 0)])
def lST : D := .str [115, 101, 101, 32, 32, 111, 114, 32, 40, 32, 110, 111, 119]
def lV1 : D := (.agg [(.int .i64 0), (.str [])])
def lV2 : D := (.agg [(.int .i64 3), (.str [117, 110, 107, 110, 111, 119, 110])])
def lV3 : D := (.agg [(.int .i64 3), (.str [104, 105, 100, 100, 101, 110])])
def lV4 : D := (.agg [(.int .i64 0), (.str [])])
def lV5 : D := (.agg [(.int .i64 3), (.str [97, 100])])
def cellsD : D → List D
  | .agg cs => cs
  | _ => []
end Go.Proofs.YteafabpedfgedaaGreatDoor.Am
end
