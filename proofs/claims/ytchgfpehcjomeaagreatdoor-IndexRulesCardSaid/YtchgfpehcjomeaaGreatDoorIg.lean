/- The index: walks of New, Remove. -/
import Derived.Test.YtchgfpehcjomeaaGreatDoorIf
set_option linter.unusedSimpArgs false
set_option linter.unusedVariables false
set_option maxRecDepth 10000
set_option maxHeartbeats 2000000
namespace Go.Proofs.YtchgfpehcjomeaaGreatDoor.Am
open Go Go.Proofs

def updA (A : W → List W) (id : W) (ws : List W) : W → List W := fun id' => if id' = id then ws else A id'
/-- The words kept for an id are its words. -/
def pA (A : W → List W) : W → W → Prop := fun w id => w ∈ A id
abbrev IxG (σ : List Ob) (x t i : Nat) (S : Nat → Prop) (A : W → List W) (L : List W) : Prop := IxAt σ x t i S A (pA A) L

theorem new14 (σ : List Ob) : callA Tryz.prog 5 [] σ fun r σ' => ∃ x t i S, r = .ptr x 0 0 ∧ IxG σ' x t i S (fun _ => []) [] ∧ Keeps (fun _ => False) σ σ' ∧ ∀ o, S o → σ.length ≤ o := by
  refine w5.go fun K hK => ?_
  have a1 : one (σ ++ [Ob.map [] 0] ++ [Ob.map [] 0]) (.mp σ.length) = true := one_mp (alive_of (x := .map [] 0) (by simp) (by simp))
  have a2 : one (σ ++ [Ob.map [] 0] ++ [Ob.map [] 0]) (.mp (σ ++ [Ob.map [] 0]).length) = true := one_mp (alive_of (x := .map [] 0) (by simp) (by simp))
  simp only [e5, c5, p5, Tryz.f5, codeOf, comp, opsOf, stOf, cop, cstp, copAt, planFor, List.find?, List.find?_nil, Option.map_none, Option.getD_none, List.any_cons, List.any_nil, Stp.idx, Bool.or_false, Nat.reduceBEq, ↓RP, RS, Int.reduceBEq, Int.reduceBNe, Int.reduceLT, Int.reduceLE, Int.reduceAdd, Int.reduceSub, ↓reduceIte, Nat.reduceAdd, Nat.reduceMul, Nat.reduceSub, Nat.reduceLT, Nat.reduceLeDiff, Nat.reduceEqDiff, decide_true, decide_false, fieldAddrF, undE, tupE, W5]
  generalize hτ : σ ++ [Ob.map [] 0] ++ [Ob.map [] 0] = τ at a1 a2 ⊢
  generalize hn : (σ ++ [Ob.map [] 0]).length = n1 at a2 ⊢
  simp only [↓RP, RS, Int.reduceBEq, Int.reduceBNe, Int.reduceLT, Int.reduceLE, Int.reduceAdd, Int.reduceSub, ↓reduceIte, Nat.reduceAdd, Nat.reduceMul, Nat.reduceSub, Nat.reduceLT, Nat.reduceLeDiff, Nat.reduceEqDiff, decide_true, decide_false, fieldAddrF, undE, tupE, W5, boxE, buildF, fillV, cellsV, a1, a2]
  have hn1 : n1 = σ.length + 1 := by rw [← hn]; simp
  subst hn1
  have hl : τ.length = σ.length + 2 := by rw [← hτ]; simp
  have m0 : τ[σ.length]? = some (.map [] 0) := by rw [← hτ]; simp
  have m1 : τ[σ.length + 1]? = some (.map [] 0) := by rw [← hτ, List.getElem?_append_right (by simp)]; simp
  have ek : MapOk [] 0 := ⟨by simp, by simp, by simp⟩
  refine hK.ret (by rfl) ⟨τ.length, σ.length, σ.length + 1, fun o => σ.length ≤ o ∧ o ≤ τ.length, rfl, ⟨[], 0, [], 0, { box := by show (τ ++ [Ob.box [.mp σ.length, .mp (σ.length + 1)]])[τ.length]? = _; simp, sub := fun o ho => (by simp; omega), sx := by omega, st := by omega, si := by omega, xt := by omega, xi := by omega, ti := by omega, tget := app_get m0 _, tok := ek, txt := fun id => rfl, iget := app_get m1 _, iok := ek, yes := fun w v hf => (by cases hf), no := fun w hf id hp => (by simp [pA] at hp), inj := fun w w' o hf => (by cases hf), lim := fun w id hp => (by simp [pA] at hp) }⟩, ?_, fun o ho => ho.1⟩
  rw [← hτ]
  simp only [List.append_assoc]
  exact Keeps.app _ _ _

theorem bin_mpn (P : Program) (t : TypeId) (σ : List Ob) (o : Nat) : binF P .eql t σ (.mp o) (.d .nilm) = if isMapT P t && alive σ o then some (.d (.bool false)) else none := by
  simp only [binF, eqv]
  by_cases h : (isMapT P t && alive σ o) = true
  · rw [if_pos h, if_pos h]
  · rw [if_neg h, if_neg h]; simp [aggEq, V.ds]
theorem bin_nmn (P : Program) (t : TypeId) (σ : List Ob) : binF P .eql t σ (.d .nilm) (.d .nilm) = if isMapT P t then some (.d (.bool true)) else none := by
  simp only [binF, eqv]
  by_cases h : isMapT P t = true
  · rw [if_pos h, if_pos h]
  · rw [if_neg h, if_neg h]; simp [aggEq, V.ds]
theorem len_mp (P : Program) (t : TypeId) (σ : List Ob) {o : Nat} {es : Es} {clk : Nat} (h : σ[o]? = some (.map (strM es) clk)) (ht : isMapT P t = true) : builtinF P .len [t] σ [.mp o] = some (.d (.int .i64 (es.length : Int))) := by
  simp only [builtinF, lenF, ht, h, if_true]
  simp [strM]
theorem len_nm (P : Program) (t : TypeId) (σ : List Ob) (ht : isMapT P t = true) : builtinF P .len [t] σ [.d .nilm] = some (.d (.int .i64 0)) := by
  simp only [builtinF, lenF, ht, if_true]

def ValL (v : V) (l : List W) : Prop := v = .d (.lst 1 (l.map .str)) ∨ (v = .d .nils ∧ l = [])
theorem ValL.at {v : V} {l : List W} (h : ValL v l) (σ : List Ob) : LstAt σ v l := by
  rcases h with rfl | ⟨rfl, rfl⟩
  · exact .val l
  · exact .nil
theorem IxP.texts {σ : List Ob} {x t i : Nat} {S : Nat → Prop} {A : W → List W} {p : W → W → Prop} {L : List W} {tes ies : Es} {tc ic : Nat} (H : IxP σ x t i S A p L tes tc ies ic) (id : W) : ∃ v, lookupF Tryz.prog 44 σ (.mp t) (.d (.str id)) false = some v ∧ ValL v (A id) := by
  have ht := H.txt id
  cases hf : findM id tes with
  | none =>
    rw [hf] at ht; simp only [TxtR] at ht
    rw [ht]
    exact ⟨_, map_lookup_no (kt := 9) (et := 35) (by simp only [T44]) (by simp only [T9]) H.tget id (z := .d .nils) (by kernel_rfl) hf, .inr ⟨rfl, rfl⟩⟩
  | some v =>
    rw [hf] at ht; simp only [TxtR] at ht
    subst ht
    exact ⟨_, map_lookup (kt := 9) (et := 35) (by simp only [T44]) (by simp only [T9]) H.tget id hf, .inl rfl⟩

theorem remove17 {σ : List Ob} {x t i : Nat} {S : Nat → Prop} {A : W → List W} {L : List W} (h : IxG σ x t i S A L) (id : W) (hA : (A id).length ≤ 1048576) :
    callA Tryz.prog 11 [.ptr x 0 0, .d (.str id)] σ fun r σ' => r = .tup [] ∧ IxG σ' x t i S (updA A id []) L ∧ Keeps S σ σ' := by
  refine w11.go fun K hK => ?_
  obtain ⟨tes, tc, ies, ic, H⟩ := h
  have a0 := alive_of H.box (by simp)
  have l0 : loadF Tryz.prog 44 σ (.ptr x 0 0) = some (.mp t) := load_box H.box rfl (by simp only [W11]) (by simp only [W11])
  obtain ⟨v, hv, hvl⟩ := H.texts id
  have lv := (hvl.at σ).len
  simp only [e11, c11, p11, Tryz.f11, codeOf, comp, opsOf, stOf, cop, cstp, copAt, planFor, List.find?, List.find?_nil, Option.map_none, Option.getD_none, List.any_cons, List.any_nil, Stp.idx, Bool.or_false, Nat.reduceBEq, ↓RP, RS, Int.reduceBEq, Int.reduceBNe, Int.reduceLT, Int.reduceLE, Int.reduceAdd, Int.reduceSub, ↓reduceIte, Nat.reduceAdd, Nat.reduceMul, Nat.reduceSub, Nat.reduceLT, Nat.reduceLeDiff, Nat.reduceEqDiff, decide_true, decide_false, fieldAddrF, undE, tupE, W11, a0, l0, hv, lv]
  refine Loop_k [0, 1, 11, 12, 13] (fun y : Nat × List Ob => fr 0 43 [(0, .ptr x 0 0), (1, .d (.str id)), (11, v), (12, .d (.int .i64 (A id).length)), (13, .d (.int .i64 y.1))]) (fun y => y.2)
    (fun y => y.1 ≤ (A id).length ∧ IxAt y.2 x t i S A (fun w id' => w ∈ A id' ∧ ¬ (w ∈ (A id).take y.1 ∧ id' = id)) L ∧ Keeps S σ y.2) (fun y => (A id).length - y.1) (0, σ) (by kernel_rfl) rfl ⟨by simp, IxAt.congr ⟨tes, tc, ies, ic, H⟩ fun w id' => by simp [pA], Keeps.refl _ _⟩ fun ⟨k, sk⟩ ⟨hk, hI, hkp⟩ => ?_
  simp only at hk hI hkp ⊢
  obtain ⟨tes, tc, ies, ic, H⟩ := hI
  have a0 := alive_of H.box (by simp)
  by_cases hlt : k < (A id).length
  · have e3 : decide ((k : Int) < ((A id).length : Int)) = true := decide_eq_true (by omega)
    have w1 : IntKind.i64.wrap ((k : Int) + 1) = ((k + 1 : Nat) : Int) := by rw [IntWalk.i64_in _ (by omega)]; rfl
    obtain ⟨w0, hw0⟩ : ∃ w0, (A id)[k]? = some w0 := ⟨_, List.getElem?_eq_getElem hlt⟩
    obtain ⟨ad, x1, x2⟩ := (hvl.at sk).get hw0
    have l1 : loadF Tryz.prog 45 sk (.ptr x 0 1) = some (.mp i) := load_box H.box rfl (by simp only [W11]) (by simp only [W11])
    have tk : ∀ w, w ∈ (A id).take (k + 1) ↔ w ∈ (A id).take k ∨ w = w0 := by
      intro w
      rw [List.take_add_one, hw0]
      simp
    -- what is left of a round
    have done : ∀ (σ' : List Ob) (s' : List V), IxAt σ' x t i S A (fun w id' => (w ∈ A id' ∧ ¬ (w ∈ (A id).take k ∧ id' = id)) ∧ ¬ (w = w0 ∧ id' = id)) L → Keeps S sk σ' → keepS [0, 1, 11, 12, 13] 0 s' = fr 0 43 [(0, .ptr x 0 0), (1, .d (.str id)), (11, v), (12, .d (.int .i64 (A id).length)), (13, .d (.int .i64 (k + 1 : Nat)))] →
        ∃ y : Nat × List Ob, (y.1 ≤ (A id).length ∧ IxAt y.2 x t i S A (fun w id' => w ∈ A id' ∧ ¬ (w ∈ (A id).take y.1 ∧ id' = id)) L ∧ Keeps S σ y.2) ∧ (A id).length - y.1 < (A id).length - k ∧ keepS [0, 1, 11, 12, 13] 0 s' = fr 0 43 [(0, .ptr x 0 0), (1, .d (.str id)), (11, v), (12, .d (.int .i64 (A id).length)), (13, .d (.int .i64 y.1))] ∧ σ' = y.2 := by
      intro σ' s' h1 h2 h3
      refine ⟨(k + 1, σ'), ⟨hlt, h1.congr fun w id' => ?_, hkp.trans h2 fun _ _ h => h⟩, by simp only; omega, h3, rfl⟩
      simp only [tk]
      constructor
      · rintro ⟨⟨g1, g2⟩, g3⟩; exact ⟨g1, fun ⟨g4, g5⟩ => g4.elim (fun g => g2 ⟨g, g5⟩) (fun g => g3 ⟨g, g5⟩)⟩
      · rintro ⟨g1, g2⟩; exact ⟨⟨g1, fun ⟨g, g5⟩ => g2 ⟨.inl g, g5⟩⟩, fun ⟨g, g5⟩ => g2 ⟨.inr g, g5⟩⟩
    cases hf : findM w0 ies with
    | some u =>
      obtain ⟨o, rfl, so, ox, ot, oi, es, clk, ho, hok, hvs, hp⟩ := H.yes w0 u hf
      have lk1 := map_lookup (P := Tryz.prog) (t := 45) (kt := 9) (et := 73) (by simp only [W11]) (by simp only [W11]) H.iget w0 hf
      have dl1 := map_del (P := Tryz.prog) (t := 73) (kt := 9) (et := 4) (by simp only [W11]) (by simp only [W11]) ho id
      have H1 := H.delId (id := id) hf ho hok hvs hp ox ot oi
      have g1 : (sk.set o (.map (strM (delM id es)) clk))[o]? = some (.map (strM (delM id es)) clk) := by rw [List.getElem?_set_self (lt_of_get ho)]
      have kp1 : Keeps S sk (sk.set o (.map (strM (delM id es)) clk)) := Keeps.set _ _ so
      generalize hσ1 : sk.set o (.map (strM (delM id es)) clk) = σ1 at H1 dl1 g1 kp1
      have a1 := alive_of H1.box (by simp)
      have l2 : loadF Tryz.prog 45 σ1 (.ptr x 0 1) = some (.mp i) := load_box H1.box rfl (by simp only [W11]) (by simp only [W11])
      have lk2 := map_lookup (P := Tryz.prog) (t := 45) (kt := 9) (et := 73) (by simp only [W11]) (by simp only [W11]) H1.iget w0 hf
      have ln := len_mp Tryz.prog 73 σ1 g1 (by simp only [W11])
      by_cases hz : (delM id es).length = 0
      · have dl2 := map_del (P := Tryz.prog) (t := 45) (kt := 9) (et := 73) (by simp only [W11]) (by simp only [W11]) H1.iget w0
        have e0 : ((((delM id es).length : Nat) : Int) == 0) = true := by rw [hz]; rfl
        have H2 := H1.delW (w0 := w0) (fun id' hp' => by
          have : hasM id' (delM id es) = false := by rw [List.length_eq_zero_iff.1 hz]; rfl
          rw [hasM_find, findM_del _ _ _ hok.keys] at this
          have hp2 := (hp id').2 hp'.1
          rw [hasM_find] at hp2
          split at this
          · rename_i e; exact hp'.2 ⟨rfl, e⟩
          · rw [hp2] at this; cases this)
        simp only [fr, ↓RP, RS, Int.reduceBEq, Int.reduceBNe, Int.reduceLT, Int.reduceLE, Int.reduceAdd, Int.reduceSub, ↓reduceIte, Nat.reduceAdd, Nat.reduceMul, Nat.reduceSub, Nat.reduceLT, Nat.reduceLeDiff, Nat.reduceEqDiff, decide_true, decide_false, fieldAddrF, undE, tupE, W11, e3, x1, x2, a0, l1, lk1, dl1, a1, l2, lk2, ln, e0, dl2, w1]
        exact seqK_n (done _ _ ⟨_, _, _, _, H2⟩ (kp1.trans (Keeps.set (S := S) _ _ H1.si) fun _ _ h => h) (by kernel_rfl))
      · have e0 : ((((delM id es).length : Nat) : Int) == 0) = false := by simpa using hz
        simp only [fr, ↓RP, RS, Int.reduceBEq, Int.reduceBNe, Int.reduceLT, Int.reduceLE, Int.reduceAdd, Int.reduceSub, ↓reduceIte, Nat.reduceAdd, Nat.reduceMul, Nat.reduceSub, Nat.reduceLT, Nat.reduceLeDiff, Nat.reduceEqDiff, decide_true, decide_false, fieldAddrF, undE, tupE, W11, e3, x1, x2, a0, l1, lk1, dl1, a1, l2, lk2, ln, e0, w1]
        exact seqK_n (done _ _ ⟨_, _, _, _, H1⟩ kp1 (by kernel_rfl))
    | none =>
      have lk1 := map_lookup_no (P := Tryz.prog) (t := 45) (kt := 9) (et := 73) (z := .d .nilm) (by simp only [W11]) (by simp only [W11]) H.iget w0 (by kernel_rfl) hf
      have dl1 := map_del_nil (P := Tryz.prog) (σ := sk) (t := 73) (kt := 9) (et := 4) (by simp only [W11]) (by simp only [W11]) id
      have ln := len_nm Tryz.prog 73 sk (by simp only [W11])
      have dl2 := map_del (P := Tryz.prog) (t := 45) (kt := 9) (et := 73) (by simp only [W11]) (by simp only [W11]) H.iget w0
      have H2 := H.delW (w0 := w0) (H.no w0 hf)
      simp only [fr, ↓RP, RS, Int.reduceBEq, Int.reduceBNe, Int.reduceLT, Int.reduceLE, Int.reduceAdd, Int.reduceSub, ↓reduceIte, Nat.reduceAdd, Nat.reduceMul, Nat.reduceSub, Nat.reduceLT, Nat.reduceLeDiff, Nat.reduceEqDiff, decide_true, decide_false, fieldAddrF, undE, tupE, W11, e3, x1, x2, a0, l1, lk1, dl1, ln, dl2, w1]
      refine seqK_n (done _ _ (IxAt.congr ⟨_, _, _, _, H2⟩ fun w id' => ⟨fun g => ⟨g, fun e => ?_⟩, fun g => g.1⟩) (Keeps.set (S := S) _ _ H.si) (by kernel_rfl))
      obtain ⟨rfl, rfl⟩ := e
      exact H.no _ hf _ g
  · have e3 : decide ((k : Int) < ((A id).length : Int)) = false := decide_eq_false (by omega)
    have l1 : loadF Tryz.prog 44 sk (.ptr x 0 0) = some (.mp t) := load_box H.box rfl (by simp only [W11]) (by simp only [W11])
    have dl := map_del (P := Tryz.prog) (t := 44) (kt := 9) (et := 35) (by simp only [W11]) (by simp only [W11]) H.tget id
    have H2 := H.setT (A' := updA A id []) (H.tok.del id) fun id' => by
      rw [findM_del _ _ _ H.tok.keys]
      unfold updA
      by_cases e : id' = id
      · rw [if_pos e, if_pos e]; rfl
      · rw [if_neg e, if_neg e]; exact H.txt id'
    rw [List.take_of_length_le (by omega)] at H2
    simp only [fr, ↓RP, RS, Int.reduceBEq, Int.reduceBNe, Int.reduceLT, Int.reduceLE, Int.reduceAdd, Int.reduceSub, ↓reduceIte, Nat.reduceAdd, Nat.reduceMul, Nat.reduceSub, Nat.reduceLT, Nat.reduceLeDiff, Nat.reduceEqDiff, decide_true, decide_false, fieldAddrF, undE, tupE, W11, e3, a0, l1, dl]
    refine hK.nrm (by rfl) ⟨rfl, IxAt.congr ⟨_, _, _, _, H2⟩ fun w id' => ?_, hkp.trans (Keeps.set (S := S) _ _ H.st) fun _ _ h => h⟩
    unfold pA updA
    by_cases e : id' = id
    · subst e; simp
    · simp [e]
end Go.Proofs.YtchgfpehcjomeaaGreatDoor.Am
