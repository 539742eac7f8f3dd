/- Walks: a queue of the network. -/
import Derived.Test.YtadddaafajennaaNb
set_option linter.unusedSimpArgs false
set_option linter.unusedVariables false
set_option maxRecDepth 10000
namespace Go.Proofs.Ytadddaafajennaa.Am
open Go Go.Proofs

theorem callA_arr {P : Program} {f : FuncId} {args : List V} {sz : Nat} {mk : Bool} {es : List D} {K : V → List Ob → Prop} (h : callA P f args [.arr sz mk es] K) {τ : List Ob} {q : Nat} (hq : τ[q]? = some (.arr sz mk es)) :
    callA P f (embVs [q] τ.length args) τ (fun r τ' => ∃ r0 σ0, K r0 σ0 ∧ r = embV [q] τ.length r0 ∧ τ' = storeBack τ [q] σ0) :=
  callA_frame h [q] τ (by simp) rfl (fun i hi => by simp at hi; subst hi; exact lt_of_get hq) (fun j i hj => by
    cases j with
    | zero => simp at hj; subst hj; simpa [embO, renO] using hq
    | succ j => simp at hj)

theorem del47 (ms junk : List D) (i : Nat) (hi : i < ms.length) (hl : ms.length ≤ 1048576) : callA Try.prog 47 [.sl 0 0 ms.length, .d (.int .i64 i), .d (.int .i64 (i + 1 : Nat))] [.arr 34 false (ms ++ junk)] fun r σ' => r = .sl 0 0 (ms.length - 1) ∧ ∃ junk', σ' = [.arr 34 false (ms.eraseIdx i ++ junk')] := by
  refine w47.go fun K hK => ?_
  have e1 : ((i : Int) == ((i + 1 : Nat) : Int)) = false := by simp; omega
  have h0 : [Ob.arr 34 false (ms ++ junk)][0]? = some (.arr 34 false (ms ++ junk)) := rfl
  have s1 := slc3 (P := Try.prog) (t := 68) (e := 42) (k1 := .i64) (k2 := .i64) (k3 := .i64) (off := 0) (len := ms.length) (a := i) (b := i + 1) (c := ms.length) h0 (by simp only [W47]) (by simp only [W47]) (by decide) (by omega) (by omega) (by omega)
  have s2 := slc_hi (P := Try.prog) (t := 68) (e := 42) (k2 := .i64) (off := 0) (len := ms.length) (b := i) h0 (by simp only [W47]) (by simp only [W47]) (by decide) (by omega)
  have s3 := slc_lo (P := Try.prog) (t := 68) (e := 42) (k1 := .i64) (off := 0) (len := ms.length) (a := i + 1) h0 (by simp only [W47]) (by simp only [W47]) (by decide) (by omega)
  have r1 := src_sl (P := Try.prog) (tx := 68) (e := 42) (off := i + 1) (len := ms.length - (i + 1)) h0 (by simp only [W47]) (by simp only [W47]) (by simp; omega)
  have q1 : ((ms ++ junk).drop (i + 1)).take (ms.length - (i + 1)) = ms.drop (i + 1) := by
    rw [List.drop_append_of_le_length (by omega)]
    rw [List.take_append_of_le_length (by simp)]
    rw [List.take_of_length_le (by simp)]
  rw [q1] at r1
  rw [Nat.zero_add] at s3
  have a1 := app_in (P := Try.prog) (t := 68) (off := 0) (len := i) h0 (by simp only [W47]) (by simp only [W47]) (by simp only [W47]) r1 (by simp; omega)
  have o1 : over (ms ++ junk) (0 + i) (ms.drop (i + 1)) = ms.eraseIdx i ++ (ms ++ junk).drop (ms.length - 1) := by
    unfold over
    rw [Nat.zero_add, List.eraseIdx_eq_take_drop_succ, List.take_append_of_le_length (by omega)]
    congr 2
    simp; omega
  have n1 : i + (ms.drop (i + 1)).length = ms.length - 1 := by simp; omega
  rw [o1, n1] at a1
  have h2 : [Ob.arr 34 false (ms.eraseIdx i ++ (ms ++ junk).drop (ms.length - 1))][0]? = some (.arr 34 false (ms.eraseIdx i ++ (ms ++ junk).drop (ms.length - 1))) := rfl
  have le : (ms.eraseIdx i).length = ms.length - 1 := by rw [List.length_eraseIdx_of_lt hi]
  have s4 := slc_lohi (P := Try.prog) (t := 68) (e := 42) (k1 := .i64) (k2 := .i64) (off := 0) (len := ms.length - 1) (a := ms.length - 1) (b := ms.length) h2 (by simp only [W47]) (by simp only [W47]) (by decide) (by omega) (.inr (by simp [le]; omega))
  rw [Nat.zero_add] at s4
  have c4 := clear_sl (P := Try.prog) (t := 68) (e := 42) (off := ms.length - 1) (len := ms.length - (ms.length - 1)) h2 (by simp only [W47]) (by simp only [W47]) (by simp only [W47]) (by simp only [W47]; rfl) (by rfl) (by simp [le]; omega)
  obtain ⟨j2, hj2⟩ : ∃ j2, over (ms.eraseIdx i ++ (ms ++ junk).drop (ms.length - 1)) (ms.length - 1) (List.replicate (ms.length - (ms.length - 1)) (.agg (z42.map fun | .d d => d | _ => .any))) = ms.eraseIdx i ++ j2 := ⟨_, by rw [← le]; exact over_app _ _ _⟩
  have c5 : clearF Try.prog 68 [Ob.arr 34 false (ms.eraseIdx i ++ (ms ++ junk).drop (ms.length - 1))] (.sl 0 (ms.length - 1) (ms.length - (ms.length - 1))) = some [.arr 34 false (ms.eraseIdx i ++ j2)] := by rw [← hj2]; exact c4
  simp only [e47, c47, p47, Try.f47, codeOf, comp, opsOf, stOf, cop, cstp, copAt, planFor, List.find?, List.find?_nil, Option.map_none, Option.getD_none, List.any_cons, List.any_nil, Stp.idx, Bool.or_false, Nat.reduceBEq, ↓RP, RS, W47, alive, e1, s1, s2, s3, a1, s4, c5, tupE]
  exact hK.ret (r := .sl 0 0 (ms.length - 1)) (by rfl) ⟨rfl, j2, by rfl⟩
end Go.Proofs.Ytadddaafajennaa.Am
