/- For all numbers of servers and all lists of steps the law NetTells answers true, and its arguments read afterwards as they did. Condition: what the arguments hold is of bulk at most 1048576. -/
import Derived.Test.YtadddaafajennaaRows
import Derived.Test.YtadddaafajennaaRj
import Derived.Test.YtadddaafajennaaAmC
import Derived.JoinedCond
set_option linter.constructorNameAsVariable false
namespace Go.Proofs.Ytadddaafajennaa.Am
open Go Go.Proofs

def shInt1 : Option (List Sh) → Bool
  | some [.int .i64] => true
  | _ => false
theorem shInt1_eq {x : Option (List Sh)} (h : shInt1 x = true) : x = some [.int .i64] := by
  unfold shInt1 at h
  split at h
  · rfl
  · cases h
theorem sh3 : shapes Try.prog 12 3 = some [.int .i64] := shInt1_eq (by kernel_rfl)
theorem ag3' : aggT Try.prog 3 = false := by kernel_rfl

theorem tells_law {B : Nat} (hB : B ≤ 1048576) (xs : List D) (h : ArgsFit Try.prog B [3, 22] xs) : callA Try.prog 3 (xs.map .d) [] fun r _ => r = .d (.bool true) := by
  obtain ⟨x0, r0, rfl, h0, h⟩ := h
  obtain ⟨x1, r1, rfl, h1, h⟩ := h
  cases h
  obtain ⟨es, rfl, hl, hs⟩ := arg_stepsS hB h1
  obtain ⟨n, rfl⟩ : ∃ n, x0 = .int .i64 n := by
    obtain ⟨shs, h1, h2⟩ := h0
    rw [sh3] at h1; cases h1
    rw [ag3'] at h2
    obtain ⟨d, t, e, h3, h4⟩ := h2
    cases e
    obtain ⟨n, rfl, _⟩ := h3
    exact ⟨n, rfl⟩
  exact tells3 n es hs (by omega)
end Go.Proofs.Ytadddaafajennaa.Am

namespace Go.Proofs.Ytadddaafajennaa
open Go.ChangeShapes Go.WideShapes Go.ChangeAt Go.RowKit

theorem tellsOwn : ownKnob Try.prog.godebug = none := by kernel_rfl
theorem tellsLaid : laidOutB Try.prog = true := by kernel_rfl

set_option maxRecDepth 100000 in
theorem tells_contract (H : Type) (enc : TypeId × Value → H) (W : World) (base : Nat) (args : Array Value) (ds gs : List (DataW H)) (before : List MemPlace)
    (hval : ∀ (j : Nat) t v, Try.f3.params[j]? = some t → args[j]? = some v → Value.okWide Try.prog W .any base t v)
    (hW : DataW.Whole enc Try.prog Try.f3.params.toList Rows.netTellsSpec.vars false W args.toList ds gs before) (hk : Rows.uptoSmall H (ds ++ gs) = true) :
    Calls Try.prog 3 args W fun e W' => ∃ v, e = .returned v ∧ Rows.netTellsSpec.post enc Try.prog Try.f3 false true false false W args v W' := by
  have hd : (∃ d0 d1, ds = [d0, d1]) ∧ gs = [] := by
    obtain ⟨p, q, hA0, hV, _⟩ := hW
    have hA : DataW.TrodAll enc Try.prog W 0 (fun _ => true) true [3, 22] args.toList ds p := hA0
    obtain ⟨v0, vs0, d0, ds0, p0, q0, _, rfl, rfl, _, r0⟩ := trodAll_cons hA
    obtain ⟨v1, vs1, d1, ds1, p1, q1, rfl, rfl, rfl, _, r1⟩ := trodAll_cons r0
    obtain ⟨rfl, rfl, rfl⟩ := trodAll_nil r1
    exact ⟨⟨d0, d1, rfl⟩, (trodVars_none hV).1⟩
  obtain ⟨⟨d0, d1, rfl⟩, rfl⟩ := hd
  have hb : Rows.uptoBulkAll [d0, d1] ≤ 1048576 := of_decide_eq_true hk
  obtain ⟨B, hB, hb⟩ : ∃ B, B ≤ 1048576 ∧ Rows.uptoBulkAll [d0, d1] ≤ B := ⟨_, hb, Nat.le_refl _⟩
  refine Am.law_calls (B := B) tellsLaid (fun t ht => ?_) rfl rfl Try.underlying4 (fun xs h => Am.tells_law hB xs h) hval hW rfl rfl rfl (.inr hb)
  have : t = 3 ∨ t = 22 := by
    have ht' : t ∈ [3, 22] := ht
    simpa using ht'
  rcases this with rfl | rfl
  · exact ⟨by kernel_rfl, by kernel_rfl, of_decide_eq_true (by kernel_rfl)⟩
  · exact ⟨by kernel_rfl, by kernel_rfl, of_decide_eq_true (by kernel_rfl)⟩

noncomputable def tellsIn : Input := ⟨#[], #[.int .i64 0, .slice none 0 0], []⟩
theorem tells_reads (os : Os) {H : Type} (enc : TypeId × Value → H) : ∃ x, DataW.whole enc Try.prog (World.plainHolding Try.prog os tellsIn).memory Try.f3.params.toList (Rows.OpenSpec.upto Rows.netTellsSpec).vars false tellsIn.args.toList 12 = some x ∧ Rows.uptoSmall H (x.1 ++ x.2.1) = true := by
  have h1 : (DataW.whole enc Try.prog (World.plainHolding Try.prog os tellsIn).memory Try.f3.params.toList (Rows.OpenSpec.upto Rows.netTellsSpec).vars false tellsIn.args.toList 12).isSome = true := by kernel_rfl
  have h2 : (match DataW.whole enc Try.prog (World.plainHolding Try.prog os tellsIn).memory Try.f3.params.toList (Rows.OpenSpec.upto Rows.netTellsSpec).vars false tellsIn.args.toList 12 with | some x => Rows.uptoSmall H (x.1 ++ x.2.1) | none => false) = true := by kernel_rfl
  obtain ⟨x, hx⟩ := Option.isSome_iff_exists.1 h1
  rw [hx] at h2
  exact ⟨x, hx, h2⟩

set_option maxRecDepth 100000 in
theorem tells_lifted (os : Os) (started : os.Started) (H : Type) (enc : TypeId × Value → H) (F : Stop.Interp) :
    ReturnsInHanded {} Try.checked os 3 .any ((Rows.OpenSpec.upto Rows.netTellsSpec).pre6 enc Try.prog Try.f3 Rows.netTellsUptoRow.domain false) (((Rows.OpenSpec.upto Rows.netTellsSpec).at F).post enc Try.prog Try.f3 false true false false) := by
  obtain ⟨x, hx, hx2⟩ := tells_reads os enc
  refine returnsInHanded_of_cond (C := Try.checked) (s := Rows.OpenSpec.upto Rows.netTellsSpec) (k := Rows.uptoSmall) rfl tellsOwn started (by kernel_rfl) Try.func3
    (OpenSpec.witness (enc := enc) (C := Try.checked) (s := Rows.OpenSpec.upto Rows.netTellsSpec) (k := Rows.uptoSmall) rfl false tellsIn 12 (by kernel_rfl) (by kernel_rfl) (by kernel_rfl)
      (x := x) hx rfl hx2) ?_
  intro W base args ds gs before hval hW _ hk _
  exact tells_contract H enc W base args ds gs before hval hW hk

theorem netTells_holds : Rows.NetTellsUptoSaid :=
  OpenClaim.holds_of_cond 3 Try.f3 rfl rfl rfl rfl rfl rfl rfl ⟨rfl, rfl, rfl, rfl, rfl⟩ rfl rfl rfl rfl rfl (by kernel_rfl) Try.func3 (by kernel_rfl)
    (of_decide_eq_true (by kernel_rfl)) (by unfold Func.isWrapper; first | (rw [if_pos (by decide +kernel)]; kernel_rfl) | (rw [if_neg (by decide +kernel)]; exact ⟨rfl, rfl⟩))
    (fun os started H enc _ F => tells_lifted os started H enc F)
end Go.Proofs.Ytadddaafajennaa
