/- Walks of the lexer: tokens, the scan of a source. -/
import Derived.Test.YtchgfpehcjomeaaGreatDoorLb
set_option linter.unusedSimpArgs false
set_option linter.unusedVariables false
set_option maxRecDepth 10000
set_option maxHeartbeats 2000000
namespace Go.Proofs.YtchgfpehcjomeaaGreatDoor.Am
open Go Go.Proofs

theorem tok_text (w rest : W) (hw : w.length ≤ 24) (hbs : ∀ b ∈ w, 32 ≤ b.toNat ∧ b.toNat ≤ 126 ∧ b.toNat ≠ 34 ∧ b.toNat ≠ 92) : TokOk (34 :: (w ++ 34 :: rest)) 2 w (w.length + 2) := by
  intro σ o h
  refine w29.go fun K hK => ?_
  have g0 : (σ ++ [Ob.box [V.d (.int .i64 0), V.d (.str []), V.d (.int .i64 0), V.d (.int .i64 0)]])[σ.length]? = some (.box [V.d (.int .i64 0), V.d (.str []), V.d (.int .i64 0), V.d (.int .i64 0)]) := by simp
  have h1 : (σ ++ [Ob.box [V.d (.int .i64 0), V.d (.str []), V.d (.int .i64 0), V.d (.int .i64 0)]])[o]? = some (.box (clsD.map .d)) := app_get h _
  have kp : Keeps (fun _ => False) σ (σ ++ [Ob.box [V.d (.int .i64 0), V.d (.str []), V.d (.int .i64 0), V.d (.int .i64 0)]]) := Keeps.app _ _ _
  have hne := lt_of_get h
  generalize hσ1 : σ ++ [Ob.box [V.d (.int .i64 0), V.d (.str []), V.d (.int .i64 0), V.d (.int .i64 0)]] = σ1 at *
  have a1 := alive_of h1 (by simp)
  have a0 := alive_of g0 (by simp)
  have x1 : indexF Tryz.prog 9 (.d (.str (34 :: (w ++ 34 :: rest)))) (.d (.int .i64 0)) = some (.d (.int .u8 (((34 : UInt8).toNat : Nat) : Int))) := ixs (k := 0) rfl
  have x2 := ix82 a1 34
  have x3 := ld82 h1 34
  have e2 : ((clsN (34 : UInt8).toNat : Int) == 2) = false := rfl
  have e3 : ((clsN (34 : UInt8).toNat : Int) == 3) = false := rfl
  have e5 : ((clsN (34 : UInt8).toNat : Int) == 5) = true := rfl
  have wn : IntKind.i64.wrap ((w.length : Int) + 2) = ((w.length + 2 : Nat) : Int) := by rw [IntWalk.i64_in _ (by omega)]; rfl
  have sl : sliceF Tryz.prog 9 σ1 (.d (.str (34 :: (w ++ 34 :: rest)))) (some (.d (.int .i64 1))) none none = some (.d (.str (w ++ 34 :: rest))) := by
    have ht : isStrT Tryz.prog 9 = true := by simp only [T9]
    have on : optNat (some (.d (.int .i64 1))) = some (some 1) := optNat_nat .i64 1
    simp only [sliceF, on, optNat_none, ht, Option.getD_none, Option.getD_some]
    rw [if_pos ⟨trivial, trivial⟩, if_pos ⟨by simp, Nat.le_refl _⟩]
    rfl
  simp only [e29, c29, p29, Tryz.f29, codeOf, comp, opsOf, stOf, cop, cstp, copAt, planFor, List.find?, List.find?_nil, Option.map_none, Option.getD_none, List.any_cons, List.any_nil, Stp.idx, Bool.or_false, Nat.reduceBEq, ↓RP, RS, Int.reduceBEq, Int.reduceBNe, Int.reduceLT, Int.reduceLE, Int.reduceAdd, Int.reduceSub, ↓reduceIte, Nat.reduceAdd, Nat.reduceMul, Nat.reduceSub, Nat.reduceLT, Nat.reduceLeDiff, Nat.reduceEqDiff, decide_true, decide_false, fieldAddrF, undE, tupE, W29, allocE, hσ1, x1, x2, x3, a1, e2, e3, e5, sl]
  refine CallK_use' (text61 w rest σ1 hw hbs) fun v σ' ⟨q1, q2⟩ => ?_
  subst q1; subst q2
  have bf : ∀ (ρ : List Ob) sl, get sl (.tmp 55) = .d (.str w) → buildF Tryz.prog 85 ρ sl [(0, .const (.int .i64 2)), (1, .tmp 55)] = some (.agg ((tokL 2 w 0).map .d)) := fun ρ sl hsl => by
    simp only [buildF, W29, fillV, hsl, cellsV]
    rfl
  have st := store_agg (P := Tryz.prog) (t := 85) (k := 0) (xs := (tokL 2 w 0).map .d) g0 (by rfl) (by simp [tokL]) (by simp [tokL, W29]) (by simp [W29])
  rw [setAt_all (by rfl)] at st
  simp only [↓RP, RS, Int.reduceBEq, Int.reduceBNe, Int.reduceLT, Int.reduceLE, Int.reduceAdd, Int.reduceSub, ↓reduceIte, Nat.reduceAdd, Nat.reduceMul, Nat.reduceSub, Nat.reduceLT, Nat.reduceLeDiff, Nat.reduceEqDiff, decide_true, decide_false, fieldAddrF, undE, tupE, W29, bf, st, wn, a0, extractF]
  have lm := load_all (P := Tryz.prog) (t := 85) (set_at g0 (.box ((tokL 2 w 0).map .d))) (by simp [W29, tokL]) (by simp only [W29]) (by simp [W29])
  refine hK.ret (r := .tup [.agg ((tokL 2 w 0).map .d), .d (.int .i64 ((w.length + 2 : Nat) : Int)), .d (.bool true)]) (by simp only [resF, resAll, resOne, e29, RS, lm]) ⟨rfl, ?_⟩
  refine ⟨by simp; exact kp.1, fun j hj hs => ?_⟩
  rw [List.getElem?_set_ne (by omega)]
  exact kp.2 j hj hs
theorem tok_sign (b : UInt8) (hb : b = 40 ∨ b = 41) (rest : W) : TokOk (b :: rest) 3 [b] 1 := by
  intro σ o h
  refine w29.go fun K hK => ?_
  have g0 : (σ ++ [Ob.box [V.d (.int .i64 0), V.d (.str []), V.d (.int .i64 0), V.d (.int .i64 0)]])[σ.length]? = some (.box [V.d (.int .i64 0), V.d (.str []), V.d (.int .i64 0), V.d (.int .i64 0)]) := by simp
  have h1 : (σ ++ [Ob.box [V.d (.int .i64 0), V.d (.str []), V.d (.int .i64 0), V.d (.int .i64 0)]])[o]? = some (.box (clsD.map .d)) := app_get h _
  have kp : Keeps (fun _ => False) σ (σ ++ [Ob.box [V.d (.int .i64 0), V.d (.str []), V.d (.int .i64 0), V.d (.int .i64 0)]]) := Keeps.app _ _ _
  have hne := lt_of_get h
  generalize hσ1 : σ ++ [Ob.box [V.d (.int .i64 0), V.d (.str []), V.d (.int .i64 0), V.d (.int .i64 0)]] = σ1 at *
  have a1 := alive_of h1 (by simp)
  have a0 := alive_of g0 (by simp)
  have x1 : indexF Tryz.prog 9 (.d (.str (b :: rest))) (.d (.int .i64 0)) = some (.d (.int .u8 (b.toNat : Int))) := ixs (k := 0) rfl
  have x2 := ix82 a1 b
  have x3 := ld82 h1 b
  have e2 : ((clsN b.toNat : Int) == 2) = false := by rcases hb with rfl | rfl <;> rfl
  have e3 : ((clsN b.toNat : Int) == 3) = false := by rcases hb with rfl | rfl <;> rfl
  have e5 : ((clsN b.toNat : Int) == 5) = false := by rcases hb with rfl | rfl <;> rfl
  have ne : strBin .neq [b] [] = some (.bool true) := by simp [strBin]
  simp only [e29, c29, p29, Tryz.f29, codeOf, comp, opsOf, stOf, cop, cstp, copAt, planFor, List.find?, List.find?_nil, Option.map_none, Option.getD_none, List.any_cons, List.any_nil, Stp.idx, Bool.or_false, Nat.reduceBEq, ↓RP, RS, Int.reduceBEq, Int.reduceBNe, Int.reduceLT, Int.reduceLE, Int.reduceAdd, Int.reduceSub, ↓reduceIte, Nat.reduceAdd, Nat.reduceMul, Nat.reduceSub, Nat.reduceLT, Nat.reduceLeDiff, Nat.reduceEqDiff, decide_true, decide_false, fieldAddrF, undE, tupE, W29, allocE, hσ1, x1, x2, x3, a1, e2, e3, e5]
  refine CallK_use' (sign62 b hb rest σ1) fun v σ' ⟨q1, q2⟩ => ?_
  subst q1; subst q2
  have bf : ∀ (ρ : List Ob) sl, get sl (.tmp 63) = .d (.str [b]) → buildF Tryz.prog 85 ρ sl [(0, .const (.int .i64 3)), (1, .tmp 63)] = some (.agg ((tokL 3 [b] 0).map .d)) := fun ρ sl hsl => by
    simp only [buildF, W29, fillV, hsl, cellsV]
    rfl
  have st := store_agg (P := Tryz.prog) (t := 85) (k := 0) (xs := (tokL 3 [b] 0).map .d) g0 (by rfl) (by simp [tokL]) (by simp [tokL, W29]) (by simp [W29])
  rw [setAt_all (by rfl)] at st
  simp only [↓RP, RS, Int.reduceBEq, Int.reduceBNe, Int.reduceLT, Int.reduceLE, Int.reduceAdd, Int.reduceSub, ↓reduceIte, Nat.reduceAdd, Nat.reduceMul, Nat.reduceSub, Nat.reduceLT, Nat.reduceLeDiff, Nat.reduceEqDiff, decide_true, decide_false, fieldAddrF, undE, tupE, W29, bf, st, ne, a0]
  have lm := load_all (P := Tryz.prog) (t := 85) (set_at g0 (.box ((tokL 3 [b] 0).map .d))) (by simp [W29, tokL]) (by simp only [W29]) (by simp [W29])
  refine hK.ret (r := .tup [.agg ((tokL 3 [b] 0).map .d), .d (.int .i64 1), .d (.bool true)]) (by simp only [resF, resAll, resOne, e29, RS, lm]; rfl) ⟨rfl, ?_⟩
  refine ⟨by simp; exact kp.1, fun j hj hs => ?_⟩
  rw [List.getElem?_set_ne (by omega)]
  exact kp.2 j hj hs

/-- A source, cut into spaces and tokens. -/
def Chain (s : W) : Nat → List (Option (Nat × W × Nat)) → Prop
  | at_, [] => at_ = s.length
  | at_, none :: r => (∃ b, s[at_]? = some b ∧ clsN b.toNat = 1) ∧ Chain s (at_ + 1) r
  | at_, some (k, t, n) :: r => (∃ b, s[at_]? = some b ∧ clsN b.toNat ≠ 1) ∧ TokOk (s.drop at_) k t n ∧ 0 < n ∧ Chain s (at_ + n) r
def toksOf : Nat → List (Option (Nat × W × Nat)) → List D
  | _, [] => []
  | at_, none :: r => toksOf (at_ + 1) r
  | at_, some (k, t, n) :: r => .agg (tokL k t at_) :: toksOf (at_ + n) r
theorem Chain.le {s : W} : ∀ {r : List (Option (Nat × W × Nat))} {a : Nat}, Chain s a r → a ≤ s.length
  | [], a, h => by simp only [Chain] at h; omega
  | none :: r, a, h => by obtain ⟨_, h⟩ := h; have := h.le; omega
  | some (k, t, n) :: r, a, h => by obtain ⟨_, _, _, h⟩ := h; have := h.le; omega
theorem toksOf_len {s : W} : ∀ {r : List (Option (Nat × W × Nat))} {a : Nat}, Chain s a r → (toksOf a r).length + a ≤ s.length
  | [], a, h => by simp only [Chain] at h; simp [toksOf]; omega
  | none :: r, a, h => by obtain ⟨_, h⟩ := h; have := toksOf_len h; simp only [toksOf]; omega
  | some (k, t, n) :: r, a, h => by obtain ⟨_, _, _, h⟩ := h; have := toksOf_len h; simp only [toksOf, List.length_cons]; omega

def endTok (n : Nat) : D := .agg (tokL 4 [] n)

def ArrT (σ : List Ob) (q : Option Nat) (ds : List D) : Prop := match q with | none => ds = [] | some q => σ[q]? = some (.arr 4 false ds)
theorem ArrT.keep {σ σ' : List Ob} {q : Option Nat} {ds : List D} (h : ArrT σ q ds) {S : Nat → Prop} (hk : Keeps S σ σ') (hs : ∀ p, q = some p → ¬ S p) : ArrT σ' q ds := by
  cases q with
  | none => exact h
  | some q => exact hk.get h (hs q rfl)

theorem app_tok {σ : List Ob} {q : Option Nat} {ds : List D} (h : ArrT σ q ds) (hl : ds.length ≤ 1048576) (k : Nat) (t : W) (a : Int) : ∃ q' τ, appE Tryz.prog 48 48 (σ ++ [.arr 4 false [.agg (tokL k t a)]]) (cellQ q ds.length) (.sl σ.length 0 1) = some (cellQ q' (ds ++ [D.agg (tokL k t a)]).length, τ) ∧ ArrT τ q' (ds ++ [.agg (tokL k t a)]) ∧ Keeps (fun p => q = some p) σ τ ∧ (∀ p, q' = some p → σ.length ≤ p) := by
  have hs : srcD Tryz.prog 85 (σ ++ [.arr 4 false [.agg (tokL k t a)]]) 48 (.sl σ.length 0 1) = some [.agg (tokL k t a)] := by
    have := src_sl (P := Tryz.prog) (σ := σ ++ [.arr 4 false [.agg (tokL k t a)]]) (o := σ.length) (tx := 48) (e := 85) (sz := 4) (off := 0) (len := 1) (mk := false) (es := [.agg (tokL k t a)]) (by simp) (by simp only [T48]) (by simp only [T85]) (by simp)
    simpa using this
  cases q with
  | none =>
    simp only [ArrT] at h
    subst h
    have := app_nil (P := Tryz.prog) (t := 48) (e := 85) (tx := 48) (σ := σ ++ [.arr 4 false [.agg (tokL k t a)]]) (ds := [.agg (tokL k t a)]) (by simp only [T48]) (by simp only [T85]) hs (b := 40) (by simp only [T85]) (by simp) (by decide)
    rw [show szOf Tryz.prog 85 = 4 by simp only [T85]] at this
    refine ⟨some (σ.length + 1), σ ++ [.arr 4 false [.agg (tokL k t a)]] ++ [.arr 4 false [.agg (tokL k t a)]], by rw [List.length_nil]; exact this.trans (by simp [cellQ]), ?_, ?_, fun p hp => by cases hp; omega⟩
    · simp only [ArrT, List.nil_append]
      rw [List.getElem?_append_right (by simp)]; simp
    · exact ((Keeps.app _ _ _).trans (Keeps.app _ _ _) fun _ _ h => h)
  | some q =>
    have hq := lt_of_get h
    have h' : (σ ++ [Ob.arr 4 false [.agg (tokL k t a)]])[q]? = some (.arr 4 false ds) := app_get h _
    have := app_new (P := Tryz.prog) (t := 48) (e := 85) (tx := 48) (σ := σ ++ [.arr 4 false [.agg (tokL k t a)]]) (o := q) (off := 0) (len := ds.length) (ds := [.agg (tokL k t a)]) h' (by simp only [T48]) (by simp only [T85]) (by simp only [T85]) hs (by simp) (by simp) (b := 40) (by simp only [T85]) (by simp; omega) (by decide)
    refine ⟨some (σ.length + 1), (σ ++ [Ob.arr 4 false [.agg (tokL k t a)]]).set q .dead ++ [.arr 4 false (ds ++ [.agg (tokL k t a)])], this.trans (by simp [cellQ]), ?_, ?_, fun p hp => by cases hp; omega⟩
    · simp only [ArrT]
      rw [List.getElem?_append_right (by simp)]; simp
    · exact ((Keeps.app _ _ _).trans (Keeps.set (S := fun p => some q = some p) _ _ rfl) fun _ _ h => h).trans (Keeps.app _ _ _) fun _ _ h => h

def z82L : List V := List.replicate 256 (.d (.int .u8 0))
theorem toD_map (σ : List Ob) (l : List D) : toD σ (.agg (l.map .d)) = some (.agg l) := by
  have key : ∀ (f : V → Option D), (∀ d, f (.d d) = some d) → (l.map V.d).mapM f = some l := by
    intro f hf
    induction l with
    | nil => rfl
    | cons x r ih => simp [List.mapM_cons, hf, ih]
  simp only [toD]
  rw [key _ (fun d => rfl)]

theorem build48 {σ : List Ob} {s : List V} {x : Operand} {k : Nat} {t : W} {a : Int} (h : get s x = .agg ((tokL k t a).map .d)) : buildSliceF Tryz.prog 48 1 σ s [(0, x)] = some (.sl σ.length 0 1, σ ++ [.arr 4 false [.agg (tokL k t a)]]) := by
  have hf : flatOk (.agg (tokL k t a)) 4 = true := rfl
  simp only [buildSliceF, T48, T85, inOrder, toDs, toD_map, h, hf, if_true, Option.map_some, List.length_cons, List.length_nil]
  simp

theorem zero82 : zeroCs Tryz.prog 82 = some z82L := by kernel_rfl

theorem scan12 (s : W) (hs : s.length ≤ 4096) (rs : List (Option (Nat × W × Nat))) (hc : Chain s 0 rs) : callA Tryz.prog 12 [.d (.str s)] [] fun r σ' => r = .tup [.d (.lst 4 (toksOf 0 rs ++ [endTok s.length])), .d (.int .i64 0), .d (.int .i64 0)] ∧ σ' = [] := by
  refine w12.go fun K hK => ?_
  have hd : decide ((4096 : Int) < (s.length : Int)) = false := by simp; omega
  simp only [e12, c12, p12, Tryz.f12, codeOf, comp, opsOf, stOf, cop, cstp, copAt, planFor, List.find?, List.find?_nil, Option.map_none, Option.getD_none, List.any_cons, List.any_nil, Stp.idx, Bool.or_false, Nat.reduceBEq, ↓RP, RS, Int.reduceBEq, Int.reduceBNe, Int.reduceLT, Int.reduceLE, Int.reduceAdd, Int.reduceSub, ↓reduceIte, Nat.reduceAdd, Nat.reduceMul, Nat.reduceSub, Nat.reduceLT, Nat.reduceLeDiff, Nat.reduceEqDiff, decide_true, decide_false, fieldAddrF, undE, tupE, W12, hd]
  refine CallK_use' classes28 fun v σ' ⟨q1, q2⟩ => ?_
  subst q1; subst q2
  have st := store_agg (P := Tryz.prog) (t := 82) (k := 0) (σ := [Ob.box z82L]) (o := 0) (xs := clsD.map .d) rfl (by kernel_rfl) (Nat.le_of_eq (by kernel_rfl)) (by kernel_rfl) (by simp only [T82]; decide)
  rw [setAt_all (by kernel_rfl)] at st
  have st : storeF Tryz.prog 82 [Ob.box z82L] (.ptr 0 0 0) (.agg (clsD.map .d)) = some [Ob.box (clsD.map .d)] := st
  simp only [↓RP, RS, Int.reduceBEq, Int.reduceBNe, Int.reduceLT, Int.reduceLE, Int.reduceAdd, Int.reduceSub, ↓reduceIte, Nat.reduceAdd, Nat.reduceMul, Nat.reduceSub, Nat.reduceLT, Nat.reduceLeDiff, Nat.reduceEqDiff, decide_true, decide_false, fieldAddrF, undE, tupE, W12, allocE, zero82, st]
  refine Loop_k [0, 5, 6, 7] (fun y : Nat × List (Option (Nat × W × Nat)) × List D × List Ob × Option Nat => fr 0 53 [(0, .d (.str s)), (5, .ptr 0 0 0), (6, cellQ y.2.2.2.2 y.2.2.1.length), (7, .d (.int .i64 y.1))]) (fun y => y.2.2.2.1)
    (fun y => Chain s y.1 y.2.1 ∧ y.2.2.1 ++ toksOf y.1 y.2.1 = toksOf 0 rs ∧ y.2.2.2.1[0]? = some (.box (clsD.map .d)) ∧ ArrT y.2.2.2.1 y.2.2.2.2 y.2.2.1 ∧ ∀ p, y.2.2.2.2 = some p → 1 ≤ p) (fun y => y.2.1.length) (0, rs, [], [Ob.box (clsD.map .d)], none) (by kernel_rfl) rfl ⟨hc, rfl, rfl, rfl, fun p hp => by cases hp⟩ fun ⟨a, rest, tk, σ, q⟩ hI => ?_
  obtain ⟨hC, htk, h0, hA, hq⟩ := hI
  simp only at hC htk h0 hA hq ⊢
  have hle := hC.le
  have htl : tk.length ≤ 4096 := by
    have h1 := congrArg List.length htk
    have h2 := toksOf_len hc
    simp only [List.length_append] at h1
    omega
  have a0 := alive_of h0 (by simp)
  have ht9 : isStrT Tryz.prog 9 = true := by simp only [T9]
  match rest, hC, htk with
  | [], hC, htk =>
    simp only [Chain] at hC
    subst hC
    have hd : decide (((s.length : Nat) : Int) < (s.length : Int)) = false := by simp
    simp only [toksOf, List.append_nil] at htk
    have bf : ∀ sl, get sl (.tmp 49) = .d (.int .i64 (s.length : Int)) → buildF Tryz.prog 85 σ sl [(0, .const (.int .i64 4)), (3, .tmp 49)] = some (.agg ((tokL 4 [] s.length).map .d)) := fun sl hsl => by
      simp only [buildF, W12, fillV, hsl, cellsV]
      rfl
    obtain ⟨q', τ, e1, e2, e3, e4⟩ := app_tok hA (by omega) 4 [] s.length
    have bs : ∀ (ρ : List Ob) sl x, get sl x = .agg ((tokL 4 [] (s.length : Int)).map .d) → buildSliceF Tryz.prog 48 1 ρ sl [(0, x)] = some (.sl ρ.length 0 1, ρ ++ [.arr 4 false [.agg (tokL 4 [] (s.length : Int))]]) := fun ρ sl x h => build48 h
    simp only [fr, ↓RP, RS, Int.reduceBEq, Int.reduceBNe, Int.reduceLT, Int.reduceLE, Int.reduceAdd, Int.reduceSub, ↓reduceIte, Nat.reduceAdd, Nat.reduceMul, Nat.reduceSub, Nat.reduceLT, Nat.reduceLeDiff, Nat.reduceEqDiff, decide_true, decide_false, fieldAddrF, undE, tupE, W12, hd, bf, bs, e1]
    cases q' with
    | none => simp [ArrT] at e2
    | some q' =>
      have e2 : τ[q']? = some (.arr 4 false (tk ++ [.agg (tokL 4 [] s.length)])) := e2
      refine hK.fin (r := .tup [cellQ (some q') (tk ++ [D.agg (tokL 4 [] s.length)]).length, .d (.int .i64 0), .d (.int .i64 0)]) (by rfl) ((Fin.freeze e2).trans ?_) ⟨rfl, rfl⟩
      simp only [frzV, frzVs, cellQ, if_true, Nat.zero_add, Nat.le_refl, List.drop_zero, List.take_length, htk, endTok]
      exact Fin.keep (n := 0) [] (by simp) (by simp) (fun i hi => by omega)
  | none :: r, hC, htk =>
    obtain ⟨⟨b, hb, hb1⟩, hC'⟩ := hC
    have hlt : a < s.length := (List.getElem?_eq_some_iff.1 hb).1
    have hd : decide ((a : Int) < (s.length : Int)) = true := by simpa using hlt
    have x1 := ixs hb
    have x2 := ix82 a0 b
    have x3 := ld82 h0 b
    have e1 : ((clsN b.toNat : Int) == 1) = true := by simp [hb1]
    have hw : IntKind.i64.wrap ((a : Int) + 1) = ((a + 1 : Nat) : Int) := by rw [IntWalk.i64_in _ (by omega)]; rfl
    simp only [fr, ↓RP, RS, Int.reduceBEq, Int.reduceBNe, Int.reduceLT, Int.reduceLE, Int.reduceAdd, Int.reduceSub, ↓reduceIte, Nat.reduceAdd, Nat.reduceMul, Nat.reduceSub, Nat.reduceLT, Nat.reduceLeDiff, Nat.reduceEqDiff, decide_true, decide_false, fieldAddrF, undE, tupE, W12, hd, x1, x2, x3, a0, e1, hw]
    exact seqK_n ⟨(a + 1, r, tk, σ, q), ⟨hC', by simpa only [toksOf] using htk, h0, hA, hq⟩, by simp, by kernel_rfl, rfl⟩
  | some (k, t, n) :: r, hC, htk =>
    obtain ⟨⟨b, hb, hb1⟩, hT, hn, hC'⟩ := hC
    have hle' := hC'.le
    have hlt : a < s.length := (List.getElem?_eq_some_iff.1 hb).1
    have hd : decide ((a : Int) < (s.length : Int)) = true := by simpa using hlt
    have x1 := ixs hb
    have x2 := ix82 a0 b
    have x3 := ld82 h0 b
    have e1 : ((clsN b.toNat : Int) == 1) = false := by simp; omega
    have hw : IntKind.i64.wrap ((a : Int) + (n : Int)) = ((a + n : Nat) : Int) := by rw [IntWalk.i64_in _ (by omega)]; rfl
    have sl : sliceF Tryz.prog 9 σ (.d (.str s)) (some (.d (.int .i64 (a : Int)))) none none = some (.d (.str (s.drop a))) := by
      simp only [sliceF, optNat_nat, optNat_none, ht9, Option.getD_none, Option.getD_some]
      rw [if_pos ⟨trivial, trivial⟩, if_pos ⟨by omega, Nat.le_refl _⟩]
      simp [cutS]
    simp only [fr, ↓RP, RS, Int.reduceBEq, Int.reduceBNe, Int.reduceLT, Int.reduceLE, Int.reduceAdd, Int.reduceSub, ↓reduceIte, Nat.reduceAdd, Nat.reduceMul, Nat.reduceSub, Nat.reduceLT, Nat.reduceLeDiff, Nat.reduceEqDiff, decide_true, decide_false, fieldAddrF, undE, tupE, W12, hd, x1, x2, x3, a0, e1, sl]
    refine CallK_use' (hT σ 0 h0) fun v σ' ⟨q1, k1⟩ => ?_
    subst q1
    have h0' := k1.get h0 (fun h => h)
    have hA' := hA.keep k1 (fun _ _ h => h)
    have g0 : (σ' ++ [Ob.box [V.d (.int .i64 0), V.d (.str []), V.d (.int .i64 0), V.d (.int .i64 0)]])[σ'.length]? = some (.box [V.d (.int .i64 0), V.d (.str []), V.d (.int .i64 0), V.d (.int .i64 0)]) := by simp
    have st1 := store_agg (P := Tryz.prog) (t := 85) (k := 0) (xs := (tokL k t 0).map .d) g0 (by rfl) (by simp [tokL]) (by simp [tokL, W12]) (by simp [W12])
    rw [setAt_all (by rfl), List.set_append_right _ _ (Nat.le_refl _), Nat.sub_self, List.set_cons_zero] at st1
    have g1 : (σ' ++ [Ob.box ((tokL k t 0).map .d)])[σ'.length]? = some (.box ((tokL k t 0).map .d)) := by simp
    have st2 := store_box (P := Tryz.prog) (t := 3) (k := 3) (x := .d (.int .i64 (a : Int))) g1 rfl (by simp [tokL]) (by simp only [W12])
    rw [List.set_append_right _ _ (Nat.le_refl _), Nat.sub_self, List.set_cons_zero, show (List.map V.d (tokL k t 0)).set 3 (.d (.int .i64 (a : Int))) = (tokL k t a).map .d from rfl] at st2
    have al1 := alive_of g1 (by simp)
    have g2 : (σ' ++ [Ob.box ((tokL k t a).map .d)])[σ'.length]? = some (.box ((tokL k t a).map .d)) := by simp
    have ld := load_all (P := Tryz.prog) (t := 85) g2 (by simp [W12, tokL]) (by simp only [W12]) (by simp [W12])
    have al2 := alive_of g2 (by simp)
    have k2 : Keeps (fun _ => False) σ' (σ' ++ [Ob.box ((tokL k t a).map .d)]) := Keeps.app _ _ _
    have h0'' := k2.get h0' (fun h => h)
    have hA'' := hA'.keep k2 (fun _ _ h => h)
    have hln : σ'.length < (σ' ++ [Ob.box ((tokL k t a).map V.d)]).length := by simp
    obtain ⟨q', τ, e5, e2, e3, e4⟩ := app_tok hA'' (by omega) k t a
    have bs : ∀ (ρ : List Ob) sl x, get sl x = .agg ((tokL k t (a : Int)).map .d) → buildSliceF Tryz.prog 48 1 ρ sl [(0, x)] = some (.sl ρ.length 0 1, ρ ++ [.arr 4 false [.agg (tokL k t (a : Int))]]) := fun ρ sl x h => build48 h
    simp only [↓RP, RS, Int.reduceBEq, Int.reduceBNe, Int.reduceLT, Int.reduceLE, Int.reduceAdd, Int.reduceSub, ↓reduceIte, Nat.reduceAdd, Nat.reduceMul, Nat.reduceSub, Nat.reduceLT, Nat.reduceLeDiff, Nat.reduceEqDiff, decide_true, decide_false, fieldAddrF, undE, tupE, W12, allocE, extractF, st1, st2, al1, al2, ld, bs, e5, hw]
    refine seqK_n ⟨(a + n, r, tk ++ [.agg (tokL k t a)], τ, q'), ⟨hC', by simpa [toksOf] using htk, e3.get h0'' (fun e => by have := hq 0 e; omega), e2, fun p hp => ?_⟩, by simp, by kernel_rfl, rfl⟩
    have := e4 p hp
    have := lt_of_get h0'
    omega

def ChainS : W → List (Option (Nat × W × Nat)) → Prop
  | s, [] => s = []
  | s, none :: r => ∃ b s', s = b :: s' ∧ clsN b.toNat = 1 ∧ ChainS s' r
  | s, some (k, t, n) :: r => (∃ b s', s = b :: s' ∧ clsN b.toNat ≠ 1) ∧ TokOk s k t n ∧ 0 < n ∧ n ≤ s.length ∧ ChainS (s.drop n) r

theorem ChainS.chain {s : W} : ∀ {r : List (Option (Nat × W × Nat))} {a : Nat}, a ≤ s.length → ChainS (s.drop a) r → Chain s a r
  | [], a, h, c => by
    simp only [ChainS] at c
    have := congrArg List.length c
    rw [List.length_drop] at this
    simp only [List.length_nil] at this
    simp only [Chain]; omega
  | none :: r, a, h, c => by
    obtain ⟨b, s', e, h1, c⟩ := c
    have hg : s[a]? = some b := by
      have : (s.drop a)[0]? = some b := by rw [e]; rfl
      rwa [List.getElem?_drop, Nat.add_zero] at this
    have hl := (List.getElem?_eq_some_iff.1 hg).1
    refine ⟨⟨b, hg, h1⟩, ChainS.chain (by omega) ?_⟩
    have : s.drop (a + 1) = s' := by rw [← List.drop_drop, e]; rfl
    rw [this]; exact c
  | some (k, t, n) :: r, a, h, c => by
    obtain ⟨⟨b, s', e, h1⟩, h2, h3, h4, c⟩ := c
    have hg : s[a]? = some b := by
      have : (s.drop a)[0]? = some b := by rw [e]; rfl
      rwa [List.getElem?_drop, Nat.add_zero] at this
    rw [List.length_drop] at h4
    refine ⟨⟨b, hg, h1⟩, h2, h3, ChainS.chain (by omega) ?_⟩
    rw [← List.drop_drop]; exact c

def sPre : W := [119, 104, 101, 110, 32, 119, 111, 114, 100, 40, 34]
def sPost : W := [34, 41, 32, 116, 104, 101, 110, 32, 104, 105, 100, 101, 32, 34, 102, 111, 117, 110, 100, 34, 10, 100, 101, 102, 97, 117, 108, 116, 32, 115, 104, 111, 119]
/-- The source of the rule that hides texts with a word. -/
def srcW (w : W) : W := (sPre ++ w) ++ sPost

def rsW (w : W) : List (Option (Nat × W × Nat)) :=
  [some (0, [119, 104, 101, 110], 4), none, some (0, [119, 111, 114, 100], 4), some (3, [40], 1), some (2, w, w.length + 2), some (3, [41], 1), none, some (0, [116, 104, 101, 110], 4), none, some (0, [104, 105, 100, 101], 4), none, some (2, [102, 111, 117, 110, 100], 7), none, some (0, [100, 101, 102, 97, 117, 108, 116], 7), none, some (0, [115, 104, 111, 119], 4)]

theorem word_at {s : W} {b : UInt8} {r t : W} (e : s = b :: r) (hc : clsN b.toNat = 2) (hs : s.length ≤ 1048576) (ht : s.takeWhile isWb = t) (hl : t.length ≤ 24) {n : Nat} (hn : t.length = n) (h0 : 0 < n) {rs : List (Option (Nat × W × Nat))} (hr : ChainS (s.drop n) rs) : ChainS s (some (0, t, n) :: rs) := by
  subst hn; subst ht
  refine ⟨⟨b, r, e, by omega⟩, tok_word (b := b) (by rw [e]; rfl) hc hs hl, h0, (List.takeWhile_sublist _).length_le, hr⟩
theorem sign_at {b : UInt8} (hb : b = 40 ∨ b = 41) {r : W} {rs : List (Option (Nat × W × Nat))} (hr : ChainS r rs) : ChainS (b :: r) (some (3, [b], 1) :: rs) :=
  ⟨⟨b, r, rfl, by rcases hb with rfl | rfl <;> decide⟩, tok_sign b hb r, by decide, by simp, hr⟩
theorem space_at {b : UInt8} (hb : clsN b.toNat = 1) {r : W} {rs : List (Option (Nat × W × Nat))} (hr : ChainS r rs) : ChainS (b :: r) (none :: rs) := ⟨b, r, rfl, hb, hr⟩
theorem text_at {w r : W} (hw : w.length ≤ 24) (hb : ∀ b ∈ w, 32 ≤ b.toNat ∧ b.toNat ≤ 126 ∧ b.toNat ≠ 34 ∧ b.toNat ≠ 92) {n : Nat} (hn : w.length + 2 = n) {rs : List (Option (Nat × W × Nat))} (hr : ChainS r rs) : ChainS (34 :: (w ++ 34 :: r)) (some (2, w, n) :: rs) := by
  subst hn
  refine ⟨⟨34, _, rfl, by decide⟩, tok_text w r hw hb, by omega, by simp, ?_⟩
  have : (34 :: (w ++ 34 :: r)).drop (w.length + 2) = r := by
    rw [List.drop_succ_cons, ← List.drop_drop, List.drop_left]; rfl
  rw [this]; exact hr

theorem chainW (w : W) (hw : w.length ≤ 24) (hb : ∀ b ∈ w, 97 ≤ b.toNat ∧ b.toNat ≤ 122) : Chain (srcW w) 0 (rsW w) := by
  refine ChainS.chain (Nat.zero_le _) ?_
  have e : srcW w = [119, 104, 101, 110, 32, 119, 111, 114, 100, 40] ++ (34 :: (w ++ 34 :: [41, 32, 116, 104, 101, 110, 32, 104, 105, 100, 101, 32, 34, 102, 111, 117, 110, 100, 34, 10, 100, 101, 102, 97, 117, 108, 116, 32, 115, 104, 111, 119])) := by
    simp [srcW, sPre, sPost]
  rw [List.drop_zero, e]
  generalize hR : (34 :: (w ++ 34 :: [41, 32, 116, 104, 101, 110, 32, 104, 105, 100, 101, 32, 34, 102, 111, 117, 110, 100, 34, 10, 100, 101, 102, 97, 117, 108, 116, 32, 115, 104, 111, 119]) : W) = R
  have hRl : R.length ≤ 100 := by rw [← hR]; simp; omega
  simp only [List.cons_append, List.nil_append]
  refine word_at rfl rfl (by simp; omega) (t := [119, 104, 101, 110]) rfl (by decide) rfl (by decide) ?_
  refine space_at rfl ?_
  refine word_at rfl rfl (by simp; omega) (t := [119, 111, 114, 100]) rfl (by decide) rfl (by decide) ?_
  refine sign_at (.inl rfl) ?_
  rw [← hR]
  refine text_at hw (fun b h => by have := hb b h; omega) rfl ?_
  refine sign_at (.inr rfl) ?_
  refine space_at rfl ?_
  refine word_at rfl rfl (by decide) (t := [116, 104, 101, 110]) rfl (by decide) rfl (by decide) ?_
  refine space_at rfl ?_
  refine word_at rfl rfl (by decide) (t := [104, 105, 100, 101]) rfl (by decide) rfl (by decide) ?_
  refine space_at rfl ?_
  refine text_at (w := [102, 111, 117, 110, 100]) (r := [10, 100, 101, 102, 97, 117, 108, 116, 32, 115, 104, 111, 119]) (by decide) (by decide) rfl ?_
  refine space_at rfl ?_
  refine word_at rfl rfl (by decide) (t := [100, 101, 102, 97, 117, 108, 116]) rfl (by decide) rfl (by decide) ?_
  refine space_at rfl ?_
  refine word_at rfl rfl (by decide) (t := [115, 104, 111, 119]) rfl (by decide) rfl (by decide) ?_
  rfl

/-- The tokens. -/
def toksW (w : W) (n : Int) : List D :=
  [.agg (tokL 0 [119, 104, 101, 110] 0), .agg (tokL 0 [119, 111, 114, 100] 5), .agg (tokL 3 [40] 9), .agg (tokL 2 w 10), .agg (tokL 3 [41] (n + 12)), .agg (tokL 0 [116, 104, 101, 110] (n + 14)), .agg (tokL 0 [104, 105, 100, 101] (n + 19)), .agg (tokL 2 [102, 111, 117, 110, 100] (n + 24)), .agg (tokL 0 [100, 101, 102, 97, 117, 108, 116] (n + 32)), .agg (tokL 0 [115, 104, 111, 119] (n + 40)), .agg (tokL 4 [] (n + 44))]

theorem scanW12 (w : W) (hw : w.length ≤ 24) (hb : ∀ b ∈ w, 97 ≤ b.toNat ∧ b.toNat ≤ 122) (τ : List Ob) : callA Tryz.prog 12 [.d (.str (srcW w))] τ fun r σ' => r = .tup [.d (.lst 4 (toksW w w.length)), .d (.int .i64 0), .d (.int .i64 0)] ∧ σ' = τ := by
  have hl : (srcW w).length = w.length + 44 := by simp [srcW, sPre, sPost]
  refine callA_mono (callA_at (scan12 (srcW w) (by omega) (rsW w) (chainW w hw hb)) τ rfl) fun r τ' q => ?_
  obtain ⟨r0, σ0, ⟨rfl, rfl⟩, rfl, rfl⟩ := q
  refine ⟨?_, by simp⟩
  have e : toksOf 0 (rsW w) ++ [endTok (srcW w).length] = toksW w w.length := by
    rw [hl]
    simp only [rsW, toksOf, toksW, endTok, List.cons_append, List.nil_append, Nat.zero_add, Nat.reduceAdd]
    simp only [List.cons.injEq, D.agg.injEq, tokL, D.int.injEq, D.str.injEq, true_and, and_true]
    refine ⟨?_, ?_, ?_, ?_, ?_, ?_, ?_, ?_⟩ <;> omega
  rw [e]
  rfl
end Go.Proofs.YtchgfpehcjomeaaGreatDoor.Am
