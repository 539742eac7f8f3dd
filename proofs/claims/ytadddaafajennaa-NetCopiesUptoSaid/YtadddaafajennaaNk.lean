/- The laws' words on the network's state; receipts; the example runs. -/
import Derived.Test.YtadddaafajennaaNj
set_option linter.unusedSimpArgs false
set_option linter.unusedVariables false
set_option maxRecDepth 10000
namespace Go.Proofs.Ytadddaafajennaa.Am
open Go Go.Proofs

theorem small8 (τ : List Ob) : callA Try.prog 8 [] τ fun r σ' => r = .d (.bool true) ∧ σ' = τ := run_val tabOk 50 (by kernel_rfl) τ rfl

def zMsg : List D := z42.map fun | .d d => d | _ => .any
def rcpt0 (f t n : Int) : List D := ((((zMsg.set 0 (.int .i64 1)).set 1 (.int .i64 f)).set 2 (.int .i64 t)).set 11 (.int .i64 f)).set 13 (.int .i64 n)
def rcpt (f t n : Int) : List D := ((rcpt0 f t n).set 10 (.lst 50 [])).set 33 (.lst 1 [])

theorem rcpt_ok (f t n : Int) : MsgOk (rcpt f t n) f t [] [] := ⟨rfl, rfl, rfl, rfl, rfl, fun e he => by simp at he, rfl, by simp, by simp⟩

theorem receipt30 (f t n : Int) (τ : List Ob) : callA Try.prog 30 [.d (.int .i64 f), .d (.int .i64 t), .d (.int .i64 n)] τ fun r σ' => r = .agg ((rcpt f t n).map .d) ∧ σ' = τ := by
  have h := run_ok tabOk 10 (P := Try.prog) (f := 30) (args := [.d (.int .i64 f), .d (.int .i64 t), .d (.int .i64 n)]) (σ := []) (σ' := []) (v := .agg ((rcpt0 f t n).map .d)) (by kernel_rfl)
  have h2 := callA_at h τ rfl
  refine callA_res (callA_mono h2 fun r σ' ⟨r0, σ0, ⟨q1, q2⟩, q3, q4⟩ => ?_)
  subst q1; subst q2
  refine ⟨_, _, ?_, rfl, by simpa using q4⟩
  rw [q3]
  refine Fin.le ?_
  have e : embV [] τ.length (.agg ((rcpt0 f t n).map .d)) = .agg ((rcpt0 f t n).map .d) := by simp only [embV, renV, renVs_d]
  rw [e]
  refine VLe_agg ?_
  have a1 : VLes ((rcpt0 f t n).map V.d) (((rcpt0 f t n).map V.d).set 10 (.d (.lst 50 []))) := VLes_set (VLe.nils 50) _ _ rfl
  have a2 : VLes (((rcpt0 f t n).map V.d).set 10 (.d (.lst 50 []))) ((((rcpt0 f t n).map V.d).set 10 (.d (.lst 50 []))).set 33 (.d (.lst 1 []))) := VLes_set (VLe.nils 1) _ _ rfl
  exact a1.trans a2

/-! sums -/
theorem sumTo_upd {f g : Nat → Nat} {n i : Nat} (hi : i < n) (h : ∀ k, k ≠ i → g k = f k) : sumTo g n + f i = sumTo f n + g i := by
  induction n with
  | zero => omega
  | succ n ih =>
    simp only [sumTo]
    by_cases e : i = n
    · subst e
      have : ∀ m, m ≤ i → sumTo g m = sumTo f m := by
        intro m
        induction m with
        | zero => intro _; rfl
        | succ m ihm => intro hm; simp only [sumTo, ihm (by omega), h m (by omega)]
      rw [this i (Nat.le_refl _)]; omega
    · have := ih (by omega)
      rw [h n (fun q => e q.symm)]; omega

theorem sumTo_congr {f g : Nat → Nat} : ∀ {n : Nat}, (∀ k, k < n → g k = f k) → sumTo g n = sumTo f n
  | 0, _ => rfl
  | n + 1, h => by simp only [sumTo, sumTo_congr (n := n) fun k hk => h k (by omega), h n (by omega)]

theorem tot_upd {A : Links} {n i j : Nat} (hi : i < n) (hj : j < n) (a : Bool × List D) : totLen (upd2 A i j a) n + (A i j).2.length = totLen A n + a.2.length := by
  have h1 : rowLen (upd2 A i j a) n i + (A i j).2.length = rowLen A n i + a.2.length := by
    have := sumTo_upd (f := fun j => (A i j).2.length) (g := fun j' => (upd2 A i j a i j').2.length) hj (fun k hk => by simp [upd2, hk])
    have e : upd2 A i j a i j = a := by simp [upd2]
    simp only [e] at this
    exact this
  have h2 := sumTo_upd (f := rowLen A n) (g := rowLen (upd2 A i j a) n) hi (fun k hk => sumTo_congr fun k' _ => by simp [upd2, hk])
  unfold totLen
  omega

@[simp] theorem upd2_same (A : Links) (i j : Nat) (a : Bool × List D) : upd2 A i j a i j = a := by simp [upd2]
theorem upd2_ne (A : Links) {i j i' j' : Nat} (a : Bool × List D) (h : ¬ (i' = i ∧ j' = j)) : upd2 A i j a i' j' = A i' j' := by simp [upd2, h]
theorem sumTo_zero {f : Nat → Nat} : ∀ {n : Nat}, (∀ k, k < n → f k = 0) → sumTo f n = 0
  | 0, _ => rfl
  | n + 1, h => by simp only [sumTo, sumTo_zero (n := n) fun k hk => h k (by omega), h n (by omega)]
theorem tot_zero (n : Nat) : totLen (fun _ _ => (false, [])) n = 0 := by
  unfold totLen rowLen
  exact sumTo_zero fun i _ => sumTo_zero fun j _ => rfl
end Go.Proofs.Ytadddaafajennaa.Am
