/- For all lists of steps and one more step the law NetApart answers true, and its arguments read afterwards as they did. Condition: what the arguments hold is of bulk at most 1048576. -/
import Derived.Test.YtadddaafajennaaRows
import Derived.Test.YtadddaafajennaaNt
import Derived.Test.YtadddaafajennaaAmC
import Derived.JoinedCond
set_option linter.constructorNameAsVariable false
namespace Go.Proofs.Ytadddaafajennaa.Am
open Go Go.Proofs

theorem apart_law {B : Nat} (hB : B ≤ 1048576) (xs : List D) (h : ArgsFit Try.prog B [22, 44] xs) : callA Try.prog 5 (xs.map .d) [] fun r _ => r = .d (.bool true) := by
  obtain ⟨x0, r0, rfl, h0, h⟩ := h
  obtain ⟨x1, r1, rfl, h1, h⟩ := h
  cases h
  obtain ⟨es, rfl, hl, hs⟩ := arg_steps hB h0
  exact apart5 es x1 hs (by omega) (arg_step hB h1)
end Go.Proofs.Ytadddaafajennaa.Am

namespace Go.Proofs.Ytadddaafajennaa
open Go.ChangeShapes Go.WideShapes Go.ChangeAt Go.RowKit

theorem apartOwn : ownKnob Try.prog.godebug = none := by kernel_rfl
theorem apartLaid : laidOutB Try.prog = true := by kernel_rfl

set_option maxRecDepth 100000 in
theorem apart_contract (H : Type) (enc : TypeId × Value → H) (W : World) (base : Nat) (args : Array Value) (ds gs : List (DataW H)) (before : List MemPlace)
    (hval : ∀ (j : Nat) t v, Try.f5.params[j]? = some t → args[j]? = some v → Value.okWide Try.prog W .any base t v)
    (hW : DataW.Whole enc Try.prog Try.f5.params.toList Rows.netApartSpec.vars false W args.toList ds gs before) (hk : Rows.uptoSmall H (ds ++ gs) = true) :
    Calls Try.prog 5 args W fun e W' => ∃ v, e = .returned v ∧ Rows.netApartSpec.post enc Try.prog Try.f5 false true false false W args v W' := by
  have hd : (∃ d0 d1, ds = [d0, d1]) ∧ gs = [] := by
    obtain ⟨p, q, hA0, hV, _⟩ := hW
    have hA : DataW.TrodAll enc Try.prog W 0 (fun _ => true) true [22, 44] args.toList ds p := hA0
    obtain ⟨v0, vs0, d0, ds0, p0, q0, _, rfl, rfl, _, r0⟩ := trodAll_cons hA
    obtain ⟨v1, vs1, d1, ds1, p1, q1, rfl, rfl, rfl, _, r1⟩ := trodAll_cons r0
    obtain ⟨rfl, rfl, rfl⟩ := trodAll_nil r1
    exact ⟨⟨d0, d1, rfl⟩, (trodVars_none hV).1⟩
  obtain ⟨⟨d0, d1, rfl⟩, rfl⟩ := hd
  have hb : Rows.uptoBulkAll [d0, d1] ≤ 1048576 := of_decide_eq_true hk
  obtain ⟨B, hB, hb⟩ : ∃ B, B ≤ 1048576 ∧ Rows.uptoBulkAll [d0, d1] ≤ B := ⟨_, hb, Nat.le_refl _⟩
  refine Am.law_calls (B := B) apartLaid (fun t ht => ?_) rfl rfl Try.underlying4 (fun xs h => Am.apart_law hB xs h) hval hW rfl rfl rfl (.inr hb)
  have : t = 22 ∨ t = 44 := by
    have ht' : t ∈ [22, 44] := ht
    simpa using ht'
  rcases this with rfl | rfl
  · exact ⟨by kernel_rfl, by kernel_rfl, of_decide_eq_true (by kernel_rfl)⟩
  · exact ⟨by kernel_rfl, by kernel_rfl, of_decide_eq_true (by kernel_rfl)⟩

noncomputable def zStep : Value := match Try.prog.info? 44 with | some i => i.zero.getD (.bool false) | none => .bool false
noncomputable def apartIn : Input := ⟨#[], #[.slice none 0 0, zStep], []⟩
theorem apart_reads (os : Os) {H : Type} (enc : TypeId × Value → H) : ∃ x, DataW.whole enc Try.prog (World.plainHolding Try.prog os apartIn).memory Try.f5.params.toList (Rows.OpenSpec.upto Rows.netApartSpec).vars false apartIn.args.toList 12 = some x ∧ Rows.uptoSmall H (x.1 ++ x.2.1) = true := by
  have h1 : (DataW.whole enc Try.prog (World.plainHolding Try.prog os apartIn).memory Try.f5.params.toList (Rows.OpenSpec.upto Rows.netApartSpec).vars false apartIn.args.toList 12).isSome = true := by kernel_rfl
  have h2 : (match DataW.whole enc Try.prog (World.plainHolding Try.prog os apartIn).memory Try.f5.params.toList (Rows.OpenSpec.upto Rows.netApartSpec).vars false apartIn.args.toList 12 with | some x => Rows.uptoSmall H (x.1 ++ x.2.1) | none => false) = true := by kernel_rfl
  obtain ⟨x, hx⟩ := Option.isSome_iff_exists.1 h1
  rw [hx] at h2
  exact ⟨x, hx, h2⟩

set_option maxRecDepth 100000 in
theorem apart_lifted (os : Os) (started : os.Started) (H : Type) (enc : TypeId × Value → H) (F : Stop.Interp) :
    ReturnsInHanded {} Try.checked os 5 .any ((Rows.OpenSpec.upto Rows.netApartSpec).pre6 enc Try.prog Try.f5 Rows.netApartUptoRow.domain false) (((Rows.OpenSpec.upto Rows.netApartSpec).at F).post enc Try.prog Try.f5 false true false false) := by
  obtain ⟨x, hx, hx2⟩ := apart_reads os enc
  refine returnsInHanded_of_cond (C := Try.checked) (s := Rows.OpenSpec.upto Rows.netApartSpec) (k := Rows.uptoSmall) rfl apartOwn started (by kernel_rfl) Try.func5
    (OpenSpec.witness (enc := enc) (C := Try.checked) (s := Rows.OpenSpec.upto Rows.netApartSpec) (k := Rows.uptoSmall) rfl false apartIn 12 (by kernel_rfl) (by kernel_rfl) (by kernel_rfl)
      (x := x) hx rfl hx2) ?_
  intro W base args ds gs before hval hW _ hk _
  exact apart_contract H enc W base args ds gs before hval hW hk

theorem netApart_holds : Rows.NetApartUptoSaid :=
  OpenClaim.holds_of_cond 5 Try.f5 rfl rfl rfl rfl rfl rfl rfl ⟨rfl, rfl, rfl, rfl, rfl⟩ rfl rfl rfl rfl rfl (by kernel_rfl) Try.func5 (by kernel_rfl)
    (of_decide_eq_true (by kernel_rfl)) (by unfold Func.isWrapper; first | (rw [if_pos (by decide +kernel)]; kernel_rfl) | (rw [if_neg (by decide +kernel)]; exact ⟨rfl, rfl⟩))
    (fun os started H enc _ F => apart_lifted os started H enc F)
end Go.Proofs.Ytadddaafajennaa
