/- For all messages the law NetCopies answers true, and its argument reads afterwards as it did. Condition: what the argument holds is of bulk at most 1048576. -/
import Derived.Test.YtadddaafajennaaRows
import Derived.Test.YtadddaafajennaaCi
import Derived.Test.YtadddaafajennaaAmC
import Derived.JoinedCond
set_option linter.constructorNameAsVariable false
namespace Go.Proofs.Ytadddaafajennaa.Am
open Go Go.Proofs

theorem sh42 : shMsg1 (shapes Try.prog 12 42) = true := by kernel_rfl
theorem ag42' : aggT Try.prog 42 = true := by kernel_rfl

theorem copies_law {B : Nat} (hB : B ≤ 1048576) (xs : List D) (h : ArgsFit Try.prog B [42] xs) : callA Try.prog 6 (xs.map .d) [] fun r _ => r = .d (.bool true) := by
  obtain ⟨x0, r0, rfl, h0, h⟩ := h
  cases h
  obtain ⟨shs, h1, h2⟩ := h0
  have hsh := sh42
  rw [h1] at hsh
  rw [ag42'] at h2
  obtain ⟨cs, rfl, h6⟩ := h2
  exact copies6 cs (msgS_fit hB hsh h6)
end Go.Proofs.Ytadddaafajennaa.Am

namespace Go.Proofs.Ytadddaafajennaa
open Go.ChangeShapes Go.WideShapes Go.ChangeAt Go.RowKit

theorem copiesOwn : ownKnob Try.prog.godebug = none := by kernel_rfl
theorem copiesLaid : laidOutB Try.prog = true := by kernel_rfl

set_option maxRecDepth 100000 in
theorem copies_contract (H : Type) (enc : TypeId × Value → H) (W : World) (base : Nat) (args : Array Value) (ds gs : List (DataW H)) (before : List MemPlace)
    (hval : ∀ (j : Nat) t v, Try.f6.params[j]? = some t → args[j]? = some v → Value.okWide Try.prog W .any base t v)
    (hW : DataW.Whole enc Try.prog Try.f6.params.toList Rows.netCopiesSpec.vars false W args.toList ds gs before) (hk : Rows.uptoSmall H (ds ++ gs) = true) :
    Calls Try.prog 6 args W fun e W' => ∃ v, e = .returned v ∧ Rows.netCopiesSpec.post enc Try.prog Try.f6 false true false false W args v W' := by
  have hd : (∃ d0, ds = [d0]) ∧ gs = [] := by
    obtain ⟨p, q, hA0, hV, _⟩ := hW
    have hA : DataW.TrodAll enc Try.prog W 0 (fun _ => true) true [42] args.toList ds p := hA0
    obtain ⟨v0, vs0, d0, ds0, p0, q0, _, rfl, rfl, _, r0⟩ := trodAll_cons hA
    obtain ⟨rfl, rfl, rfl⟩ := trodAll_nil r0
    exact ⟨⟨d0, rfl⟩, (trodVars_none hV).1⟩
  obtain ⟨⟨d0, rfl⟩, rfl⟩ := hd
  have hb : Rows.uptoBulkAll [d0] ≤ 1048576 := of_decide_eq_true hk
  obtain ⟨B, hB, hb⟩ : ∃ B, B ≤ 1048576 ∧ Rows.uptoBulkAll [d0] ≤ B := ⟨_, hb, Nat.le_refl _⟩
  refine Am.law_calls (B := B) copiesLaid (fun t ht => ?_) rfl rfl Try.underlying4 (fun xs h => Am.copies_law hB xs h) hval hW rfl rfl rfl (.inr hb) (by intro g cs e; simp [Am.globs] at e)
  have : t = 42 := by
    have ht' : t ∈ [42] := ht
    simpa using ht'
  subst this
  exact ⟨by kernel_rfl, by kernel_rfl, of_decide_eq_true (by kernel_rfl)⟩

noncomputable def zMsgV : Value := match Try.prog.info? 42 with | some i => i.zero.getD (.bool false) | none => .bool false
noncomputable def copiesIn : Input := ⟨#[], #[zMsgV], []⟩
theorem copies_reads (os : Os) {H : Type} (enc : TypeId × Value → H) : ∃ x, DataW.whole enc Try.prog (World.plainHolding Try.prog os copiesIn).memory Try.f6.params.toList (Rows.OpenSpec.upto Rows.netCopiesSpec).vars false copiesIn.args.toList 12 = some x ∧ Rows.uptoSmall H (x.1 ++ x.2.1) = true := by
  have h1 : (DataW.whole enc Try.prog (World.plainHolding Try.prog os copiesIn).memory Try.f6.params.toList (Rows.OpenSpec.upto Rows.netCopiesSpec).vars false copiesIn.args.toList 12).isSome = true := by kernel_rfl
  have h2 : (match DataW.whole enc Try.prog (World.plainHolding Try.prog os copiesIn).memory Try.f6.params.toList (Rows.OpenSpec.upto Rows.netCopiesSpec).vars false copiesIn.args.toList 12 with | some x => Rows.uptoSmall H (x.1 ++ x.2.1) | none => false) = true := by kernel_rfl
  obtain ⟨x, hx⟩ := Option.isSome_iff_exists.1 h1
  rw [hx] at h2
  exact ⟨x, hx, h2⟩

set_option maxRecDepth 100000 in
theorem copies_lifted (os : Os) (started : os.Started) (H : Type) (enc : TypeId × Value → H) (F : Stop.Interp) :
    ReturnsInHanded {} Try.checked os 6 .any ((Rows.OpenSpec.upto Rows.netCopiesSpec).pre6 enc Try.prog Try.f6 Rows.netCopiesUptoRow.domain false) (((Rows.OpenSpec.upto Rows.netCopiesSpec).at F).post enc Try.prog Try.f6 false true false false) := by
  obtain ⟨x, hx, hx2⟩ := copies_reads os enc
  refine returnsInHanded_of_cond (C := Try.checked) (s := Rows.OpenSpec.upto Rows.netCopiesSpec) (k := Rows.uptoSmall) rfl copiesOwn started (by kernel_rfl) Try.func6
    (OpenSpec.witness (enc := enc) (C := Try.checked) (s := Rows.OpenSpec.upto Rows.netCopiesSpec) (k := Rows.uptoSmall) rfl false copiesIn 12 (by kernel_rfl) (by kernel_rfl) (by kernel_rfl)
      (x := x) hx rfl hx2) ?_
  intro W base args ds gs before hval hW _ hk _
  exact copies_contract H enc W base args ds gs before hval hW hk

theorem netCopies_holds : Rows.NetCopiesUptoSaid :=
  OpenClaim.holds_of_cond 6 Try.f6 rfl rfl rfl rfl rfl rfl rfl ⟨rfl, rfl, rfl, rfl, rfl⟩ rfl rfl rfl rfl rfl (by kernel_rfl) Try.func6 (by kernel_rfl)
    (of_decide_eq_true (by kernel_rfl)) (by unfold Func.isWrapper; first | (rw [if_pos (by decide +kernel)]; kernel_rfl) | (rw [if_neg (by decide +kernel)]; exact ⟨rfl, rfl⟩))
    (fun os started H enc _ F => copies_lifted os started H enc F)
end Go.Proofs.Ytadddaafajennaa
