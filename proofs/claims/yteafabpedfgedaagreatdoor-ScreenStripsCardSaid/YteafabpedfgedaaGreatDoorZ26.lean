/- The engine's bridge: from a contract to what a row's proof asks of a call. -/
import Derived.Test.YteafabpedfgedaaGreatDoorZ10
import Derived.Below
import Derived.Carry
import Derived.ChangeSame
import Derived.ProofKit
import Derived.OpenShut
set_option linter.unusedSimpArgs false
set_option linter.unusedVariables false
namespace Go.Proofs.YteafabpedfgedaaGreatDoor.Am
open Go Go.RowKit Go.WideShapes Go.ChangeShapes

/-- The world at the call's beginning: nothing is owned. -/
def cx0 (W : World) : Cx := ⟨W, fun _ => .unborn, fun _ => False, []⟩

theorem cx0_own (W : World) (b : Nat) : ¬ (cx0 W).own b := by rintro ⟨o, base, sz, h⟩; cases h
theorem sr0 (W : World) (hG : Glob (cx0 W)) : SR (cx0 W) [] := ⟨fun _ => rfl, (fun {o o' b base sz base' sz'} h => by cases h), (fun _ h => h.elim), hG⟩

theorem below_of {W w' : World} {loc' : Nat → Loc} (h : Ext (cx0 W) ⟨w', loc', (cx0 W).hid⟩) : Below W.heap.size W w' :=
  ⟨h.io.1, h.io.2.1, h.io.2.2, h.size, fun k hk => (h.frame k hk (cx0_own W k)).1⟩

theorem vrs_d {I : Im} {w : World} {l : Nat → Loc} : ∀ {ds : List D} {vs : List Value}, DRs I ds vs → VRs I w l (ds.map .d) vs
  | [], _, h => by simpa [DRs, VRs] using h
  | d :: ds, _, h => by
    simp only [DRs] at h
    obtain ⟨v, r, rfl, h1, h2⟩ := h
    simp only [List.map_cons, VRs, VR]
    exact ⟨v, r, rfl, h1, vrs_d h2⟩

/-- A LAW's CALL. -/
theorem bridge {P : Program} {f : FuncId} {ds : List D} (h : callA P f (ds.map .d) [] fun r _ => r = .d (.bool true)) (W : World) {vals : List Value} (hv : DRs (cx0 W).im ds vals) (hG : Glob (cx0 W) := by intro g cs e; simp [globs] at e) :
    Calls P f vals.toArray W fun e w' => e = .returned (.bool true) ∧ Below W.heap.size W w' :=
  (h.2 (cx0 W) vals (sr0 W hG) (vrs_d hv)).mono fun e w' hp => by
    cases e with
    | outgrown => exact hp.elim
    | panicked _ => exact hp.elim
    | returned v =>
      obtain ⟨loc', σ', r, h1, h2, h3, rfl⟩ := hp
      simp only [Cx.vr, VR, DR] at h3
      subst h3
      exact ⟨rfl, below_of h2⟩

section
variable {H : Type} {enc : TypeId × Value → H} {P : Program}
/-- What a law's row asks behind the call, where it has answered true and the memory below has not turned. -/
theorem law_post {f : Func} {s : ChangeSpec} {t : TypeId} {apart fresh handsOn again : Bool} {W W' : World} {args : Array Value} {ds : List (DataW H)} {pa : List MemPlace}
    (hW : DataW.Whole enc P f.params.toList s.vars apart W args.toList ds [] pa) (hv : s.vars = []) (hr : f.resultTypes = #[t]) (ht : P.underlying t = some .bool)
    (hs : (s.fn H ds).results = [.lit (.bool true)]) (ha : (s.fn H ds).args = ds) (hg : (s.fn H ds).vars = [])
    (hargs : ∀ sp : Nat → Bool, (∀ p ∈ pa, sp p.block = true) → DataW.TrodAll enc P W' 0 sp true f.params.toList args.toList ds pa) (hb : Below W.heap.size W W') :
    s.post enc P f apart fresh handsOn again W args (.bool true) W' := by
  have low : ∀ p ∈ pa, p.block < W.heap.size := fun p hp => hW.lt p hp
  have old : ∀ p ∈ pa, (fun b => decide (b < W.heap.size)) p.block = true := fun p hp => decide_eq_true (low p hp)
  have rl : ((Value.bool true).resultList f.resultTypes.size) = [.bool true] := by rw [hr]; rfl
  have res : ∀ (b : Nat) (sp : Nat → Bool) (hd : Bool), DataW.TrodAll enc P W' b sp hd f.resultTypes.toList ((Value.bool true).resultList f.resultTypes.size) (s.fn H (ds ++ [])).results [] := fun b sp hd => by
    rw [rl, hr, List.append_nil, hs]
    exact trodAll_mk1 (shut_bool ht true)
  have vs : ∀ sp : Nat → Bool, DataW.TrodVars enc P W' sp s.vars (s.fn H (ds ++ [])).vars [] := fun sp => by
    rw [List.append_nil, hg, hv]; exact rfl
  have as : ∀ sp : Nat → Bool, (∀ p ∈ pa, sp p.block = true) → DataW.TrodAll enc P W' 0 sp true f.params.toList args.toList (s.fn H (ds ++ [])).args pa := fun sp h => by
    rw [List.append_nil, ha]; exact hargs sp h
  refine ⟨ds, [], pa, [], pa, [], hW, res _ _ _, as _ old, vs _, World.keptBut_mono (fun p hp => ⟨hp, .inr (by simpa using hp)⟩) (hb.frame (· ∈ pa)), fun _ => ?_⟩
  obtain ⟨_, _, _, _, _, hz, hn⟩ := hW
  refine ⟨fun j t' r h1 h2 => ?_, _, _, ([] ++ pa) ++ [], ⟨[] ++ pa, [], trodAll_append (as _ (fun _ _ => rfl)) (res _ _ _), vs _, rfl, fun b off hp => ?_, fun h => ?_⟩, fun p hp _ => by simpa using hp⟩
  · rw [rl] at h2
    rw [hr] at h1
    cases j with
    | zero =>
      simp at h1 h2
      subst h1; subst h2
      exact okWide_bool_mk ht true
    | succ j => simp at h2
  · have hin : MemPlace.cell b off ∈ pa := by simpa using hp
    rw [hb.frozen (low _ hin)]
    exact hz b off hin
  · have := hn h
    simpa using this
end
end Go.Proofs.YteafabpedfgedaaGreatDoor.Am
