/- A message is the same as itself: the reference's comparisons. Printed by program (genR.py). -/
import Derived.Test.YtadddaafajennaaNr
set_option linter.unusedSimpArgs false
set_option linter.unusedVariables false
set_option maxRecDepth 10000
set_option maxHeartbeats 4000000
namespace Go.Proofs.Ytadddaafajennaa.Am
open Go Go.Proofs

/-! ### cells of known kinds -/
def Knd : List (Option SK) → List D → Prop
  | [], ds => ds = []
  | some .int :: r, ds => ∃ k n t, ds = .int k n :: t ∧ Knd r t
  | some .str :: r, ds => ∃ s t, ds = .str s :: t ∧ Knd r t
  | some .bool :: r, ds => ∃ b t, ds = .bool b :: t ∧ Knd r t
  | none :: r, ds => ∃ sz es t, ds = .lst sz es :: t ∧ Knd r t

theorem Knd.length : ∀ {ks : List (Option SK)} {ds : List D}, Knd ks ds → ds.length = ks.length
  | [], ds, h => by simp only [Knd] at h; simp [h]
  | some .int :: r, ds, h => by simp only [Knd] at h; obtain ⟨k, n, t, rfl, h⟩ := h; simp [Knd.length h]
  | some .str :: r, ds, h => by simp only [Knd] at h; obtain ⟨s, t, rfl, h⟩ := h; simp [Knd.length h]
  | some .bool :: r, ds, h => by simp only [Knd] at h; obtain ⟨s, t, rfl, h⟩ := h; simp [Knd.length h]
  | none :: r, ds, h => by simp only [Knd] at h; obtain ⟨sz, es, t, rfl, h⟩ := h; simp [Knd.length h]

theorem Knd.drop : ∀ {ks : List (Option SK)} {ds : List D}, Knd ks ds → ∀ n, Knd (ks.drop n) (ds.drop n)
  | ks, ds, h, 0 => by simpa using h
  | [], ds, h, n + 1 => by simp only [Knd] at h; subst h; simp [Knd]
  | some .int :: r, ds, h, n + 1 => by simp only [Knd] at h; obtain ⟨k, m, t, rfl, h⟩ := h; simpa using Knd.drop h n
  | some .str :: r, ds, h, n + 1 => by simp only [Knd] at h; obtain ⟨s, t, rfl, h⟩ := h; simpa using Knd.drop h n
  | some .bool :: r, ds, h, n + 1 => by simp only [Knd] at h; obtain ⟨s, t, rfl, h⟩ := h; simpa using Knd.drop h n
  | none :: r, ds, h, n + 1 => by simp only [Knd] at h; obtain ⟨sz, es, t, rfl, h⟩ := h; simpa using Knd.drop h n

theorem Knd.take : ∀ {ks : List (Option SK)} {ds : List D}, Knd ks ds → ∀ n, Knd (ks.take n) (ds.take n)
  | ks, ds, h, 0 => by simp [Knd]
  | [], ds, h, n + 1 => by simp only [Knd] at h; subst h; simp [Knd]
  | some .int :: r, ds, h, n + 1 => by simp only [Knd] at h; obtain ⟨k, m, t, rfl, h⟩ := h; simp only [List.take_succ_cons, Knd]; exact ⟨k, m, _, rfl, Knd.take h n⟩
  | some .str :: r, ds, h, n + 1 => by simp only [Knd] at h; obtain ⟨s, t, rfl, h⟩ := h; simp only [List.take_succ_cons, Knd]; exact ⟨s, _, rfl, Knd.take h n⟩
  | some .bool :: r, ds, h, n + 1 => by simp only [Knd] at h; obtain ⟨s, t, rfl, h⟩ := h; simp only [List.take_succ_cons, Knd]; exact ⟨s, _, rfl, Knd.take h n⟩
  | none :: r, ds, h, n + 1 => by simp only [Knd] at h; obtain ⟨sz, es, t, rfl, h⟩ := h; simp only [List.take_succ_cons, Knd]; exact ⟨sz, es, _, rfl, Knd.take h n⟩

theorem Knd.flat : ∀ {ks : List SK} {ds : List D}, Knd (ks.map some) ds → flatD ks ds ds = some true
  | [], ds, h => by simp only [List.map_nil, Knd] at h; subst h; rfl
  | .int :: r, ds, h => by simp only [List.map_cons, Knd] at h; obtain ⟨k, m, t, rfl, h⟩ := h; simp [flatD, Knd.flat h]
  | .str :: r, ds, h => by simp only [List.map_cons, Knd] at h; obtain ⟨s, t, rfl, h⟩ := h; simp [flatD, Knd.flat h]
  | .bool :: r, ds, h => by simp only [List.map_cons, Knd] at h; obtain ⟨s, t, rfl, h⟩ := h; simp [flatD, Knd.flat h]

/-- A scalar among the cells. -/
def cel (ms : List D) (k : Nat) : D := ms.getD k .any
def Scal (d : D) : Prop := (∃ k n, d = .int k n) ∨ ∃ s, d = .str s
def isScal : Option (Option SK) → Bool
  | some (some .int) => true
  | some (some .str) => true
  | _ => false
theorem Knd.scal {ks : List (Option SK)} {ds : List D} (h : Knd ks ds) (k : Nat) (hs : isScal ks[k]? = true) : ds[k]? = some (cel ds k) ∧ Scal (cel ds k) := by
  have h' := h.drop k
  have e : ks.drop k = (ks.drop k) := rfl
  have hk : k < ks.length := by
    rcases Nat.lt_or_ge k ks.length with g | g
    · exact g
    · rw [List.getElem?_eq_none g] at hs; cases hs
  have hl := h.length
  have hd : ds[k]? = some (cel ds k) := by
    unfold cel
    rw [List.getD_eq_getElem?_getD, List.getElem?_eq_getElem (by omega)]; rfl
  refine ⟨hd, ?_⟩
  rw [List.drop_eq_getElem_cons hk] at h'
  rw [List.getElem?_eq_getElem hk] at hs
  have hd' : ds.drop k = cel ds k :: ds.drop (k + 1) := by
    obtain ⟨u, v⟩ := List.getElem?_eq_some_iff.1 hd
    rw [List.drop_eq_getElem_cons u, v]
  rw [hd'] at h'
  generalize ks[k] = x at hs h'
  cases x with
  | none => cases hs
  | some x =>
    cases x with
    | int => simp only [Knd, List.cons.injEq] at h'; obtain ⟨k', n, t, ⟨e, _⟩, _⟩ := h'; exact .inl ⟨k', n, e⟩
    | str => simp only [Knd, List.cons.injEq] at h'; obtain ⟨s, t, ⟨e, _⟩, _⟩ := h'; exact .inr ⟨s, e⟩
    | bool => cases hs
theorem scal_eq {d : D} (h : Scal d) (P : Program) (t : TypeId) (σ : List Ob) : binF P .eql t σ (.d d) (.d d) = some (.d (.bool true)) := by
  rcases h with ⟨k, n, rfl⟩ | ⟨s, rfl⟩
  · simp [binF, intBin]
  · simp [binF, strBin]
theorem scal_ne {d : D} (h : Scal d) (P : Program) (t : TypeId) (σ : List Ob) : binF P .neq t σ (.d d) (.d d) = some (.d (.bool false)) := by
  rcases h with ⟨k, n, rfl⟩ | ⟨s, rfl⟩
  · simp [binF, intBin]
  · simp [binF, strBin]
theorem cel_load {P : Program} {t : TypeId} {σ : List Ob} {o : Nat} {ms : List D} (h : σ[o]? = some (.box (ms.map .d))) (k : Nat) (hk : ms[k]? = some (cel ms k)) (h1 : aggT P t = false) (h2 : okT P t = true) : loadF P t σ (.ptr o 0 k) = some (.d (cel ms k)) := load_box h (d_get hk) h1 h2

/-- A part that is an aggregate. -/
def agv (ms : List D) (k n : Nat) : V := .agg (((ms.map V.d).drop k).take n)
theorem agv_eq' (ms : List D) (k n : Nat) : agv ms k n = .agg (((ms.drop k).take n).map V.d) := by simp [agv, List.map_take, List.map_drop]
theorem agv_load {P : Program} {t : TypeId} {σ : List Ob} {o : Nat} {ms : List D} (h : σ[o]? = some (.box (ms.map .d))) (k n : Nat) (hz : szOf P t = n) (hn : 0 < n) (hk : k + n ≤ ms.length) (h1 : aggT P t = true) : loadF P t σ (.ptr o 0 k) = some (agv ms k n) := by
  rw [load_agg h (by simp [hz, hk]) h1 (by omega), hz]; rfl
theorem ds_map (xs : List D) : (V.agg (xs.map V.d)).ds = some xs := by
  simp only [V.ds]
  induction xs with
  | nil => rfl
  | cons x r ih => simp [List.mapM_cons, ih]
theorem agg_same {P : Program} {t : TypeId} {σ : List Ob} {xs : List D} {ks : List SK} (hf : flatT P 8 t = some ks) (hg : P.eqGuardType P.depth t = false) (ha : aggT P t = true) (h : flatD ks xs xs = some true) : binF P .eql t σ (.agg (xs.map .d)) (.agg (xs.map .d)) = some (.d (.bool true)) := by
  have e : eqv P t σ (.agg (xs.map .d)) (.agg (xs.map .d)) = none := by simp [eqv]
  simp only [binF, e, aggEq, ds_map, hf, hg, ha, h, and_self, if_true, Option.map_some]
theorem agv_same {P : Program} {t : TypeId} {ms : List D} {ms' : List (Option SK)} (h : Knd ms' ms) (k n : Nat) (ks : List SK) (hk : (ms'.drop k).take n = ks.map some) (hf : flatT P 8 t = some ks) (hg : P.eqGuardType P.depth t = false) (ha : aggT P t = true) (σ : List Ob) : binF P .eql t σ (agv ms k n) (agv ms k n) = some (.d (.bool true)) := by
  rw [agv_eq']
  have := (h.drop k).take n
  rw [hk] at this
  exact agg_same hf hg ha this.flat

theorem agg_same_ne {P : Program} {t : TypeId} {σ : List Ob} {xs : List D} {ks : List SK} (hf : flatT P 8 t = some ks) (hg : P.eqGuardType P.depth t = false) (ha : aggT P t = true) (h : flatD ks xs xs = some true) : binF P .neq t σ (.d (.agg xs)) (.d (.agg xs)) = some (.d (.bool false)) := by
  have e : eqv P t σ (.d (.agg xs)) (.d (.agg xs)) = none := by simp [eqv]
  simp only [binF, e, aggEq, V.ds, hf, hg, ha, h, and_self, if_true, Option.map_some, Bool.not_true]

/-! ### lists of strings -/
def StrL (l : List D) : Prop := ∀ d ∈ l, ∃ s, d = .str s

theorem strings44 (l : List D) (hl : StrL l) (hB : l.length ≤ 1048576) (τ : List Ob) : callA Try.prog 44 [.d (.lst 1 l), .d (.lst 1 l)] τ fun r σ' => r = .d (.bool true) ∧ σ' = τ := by
  refine callA_val ?_ τ rfl
  refine w44.go fun K hK => ?_
  have en : ∀ n : Int, (n != n) = false := by simp
  simp only [e44, c44, p44, Try.f44, codeOf, comp, opsOf, stOf, cop, cstp, copAt, planFor, List.find?, List.find?_nil, Option.map_none, Option.getD_none, List.any_cons, List.any_nil, Stp.idx, Bool.or_false, Nat.reduceBEq, ↓RP, RS, Int.reduceBEq, Int.reduceBNe, Int.reduceLT, Int.reduceLE, Int.reduceAdd, Int.reduceSub, ↓reduceIte, Nat.reduceAdd, Nat.reduceMul, Nat.reduceSub, Nat.reduceLT, Nat.reduceLeDiff, Nat.reduceEqDiff, decide_true, decide_false, fieldAddrF, undE, tupE, W44, en]
  refine Loop_k [0, 1, 5] (fun k : Nat => fr 0 26 [(0, .d (.lst 1 l)), (1, .d (.lst 1 l)), (5, .d (.int .i64 k))]) (fun _ => []) (fun k => k ≤ l.length) (fun k => l.length - k) 0 (by kernel_rfl) rfl (Nat.zero_le _) fun k hkk => ?_
  by_cases hlt : k < l.length
  · have e3 : decide ((k : Int) < (l.length : Int)) = true := by simpa using hlt
    obtain ⟨s, hs⟩ := hl _ (List.getElem_mem hlt)
    have x1 : ∀ σ, indexAddrF Try.prog 38 σ (.d (.lst 1 l)) (.d (.int .i64 (k : Int))) = some (.ipt [.str s]) := fun σ => index_lst1 (P := Try.prog) (t := 38) (e := 9) (by simp only [W44]) (by simp only [W44]) (by rw [List.getElem?_eq_getElem hlt, hs]) rfl
    have w1 : IntKind.i64.wrap ((k : Int) + 1) = ((k + 1 : Nat) : Int) := by rw [IntWalk.i64_in _ (by omega)]; rfl
    have es : (s == s) = true := by simp
    simp only [fr, ↓RP, RS, Int.reduceBEq, Int.reduceBNe, Int.reduceLT, Int.reduceLE, Int.reduceAdd, Int.reduceSub, ↓reduceIte, Nat.reduceAdd, Nat.reduceMul, Nat.reduceSub, Nat.reduceLT, Nat.reduceLeDiff, Nat.reduceEqDiff, decide_true, decide_false, fieldAddrF, undE, tupE, W44, e3, x1, loadF, takeD, strBin, es, w1]
    exact seqK_n ⟨k + 1, by omega, by omega, by kernel_rfl, rfl⟩
  · have e3 : decide ((k : Int) < (l.length : Int)) = false := by simpa using hlt
    simp only [fr, ↓RP, RS, Int.reduceBEq, Int.reduceBNe, Int.reduceLT, Int.reduceLE, Int.reduceAdd, Int.reduceSub, ↓reduceIte, Nat.reduceAdd, Nat.reduceMul, Nat.reduceSub, Nat.reduceLT, Nat.reduceLeDiff, Nat.reduceEqDiff, decide_true, decide_false, fieldAddrF, undE, tupE, W44, e3]
    exact hK.ret (by rfl) ⟨rfl, rfl⟩

def kM : List (Option SK) := [some .int, some .int, some .int, some .int, some .int, some .str, some .int, some .int, some .int, some .int, none, some .int, some .int, some .int, some .str, some .int, some .int, some .int, some .int, some .int, some .int, some .int, some .str, some .int, some .int, some .int, some .int, some .int, some .str, some .int, some .int, some .int, some .str, none]
def kE : List (Option SK) := [some .int, some .int, some .str, some .int, some .str, some .int, some .int, some .str, some .str, some .int, some .str, none, some .str, some .str, some .str, some .str, some .int, none, some .int, some .int, some .int, some .int, some .str, some .int, some .str, some .int, some .int, some .int, some .int, some .int, some .int, some .int, some .str, some .int, some .str, some .int, some .int, some .int, some .int, some .int, some .int, some .str, some .str, some .str, none, some .int, some .int, some .int, some .int, some .int]
def kAct : List (Option SK) := [some .str, some .int, some .str, some .int, some .int, some .str, some .str, some .int, some .str, none, some .str, some .str, some .str, some .str, some .int, none, some .int, some .int, some .int, some .int]
def kItem : List (Option SK) := [some .int, some .str, some .int, some .str, some .int, some .int, some .str, some .str, some .int, some .str, none, some .str, some .str, some .str, some .str, some .int, none, some .int, some .int, some .int, some .int, some .str, some .int, some .str, some .int, some .int, some .int, some .int, some .int, some .int, some .int, some .str, some .int, some .str, some .int, some .int, some .int, some .int, some .int, some .int, some .str, some .str, some .str, none, some .int, some .int, some .int, some .int, some .int]
def kHead : List SK := [.int, .int, .str, .int, .int, .int]
def kRng : List SK := [.int, .int]
def kRec : List SK := [.int, .int, .int, .str, .int, .int, .int, .int, .int]
def kClaim : List SK := [.str, .int, .str, .int, .int, .int, .int, .int, .int]
def kBallot : List SK := [.int, .str, .int, .str, .int, .int, .int]
def kWrap : List SK := [.int, .int, .str, .str, .str]
def kS3 : List SK := [.str, .str, .str]
theorem F30 : flatT Try.prog 8 30 = some kRng ∧ Try.prog.eqGuardType Try.prog.depth 30 = false := ⟨by kernel_rfl, by kernel_rfl⟩
theorem F32 : flatT Try.prog 8 32 = some kHead ∧ Try.prog.eqGuardType Try.prog.depth 32 = false := ⟨by kernel_rfl, by kernel_rfl⟩
theorem F37 : flatT Try.prog 8 37 = some kRec ∧ Try.prog.eqGuardType Try.prog.depth 37 = false := ⟨by kernel_rfl, by kernel_rfl⟩
theorem F88 : flatT Try.prog 8 88 = some kClaim ∧ Try.prog.eqGuardType Try.prog.depth 88 = false := ⟨by kernel_rfl, by kernel_rfl⟩
theorem F90 : flatT Try.prog 8 90 = some kBallot ∧ Try.prog.eqGuardType Try.prog.depth 90 = false := ⟨by kernel_rfl, by kernel_rfl⟩
theorem F83 : flatT Try.prog 8 83 = some kS3 ∧ Try.prog.eqGuardType Try.prog.depth 83 = false := ⟨by kernel_rfl, by kernel_rfl⟩
theorem F99 : flatT Try.prog 8 99 = some kWrap ∧ Try.prog.eqGuardType Try.prog.depth 99 = false := ⟨by kernel_rfl, by kernel_rfl⟩
def WrapL (l : List D) : Prop := ∀ d ∈ l, ∃ cs, d = .agg cs ∧ Knd (kWrap.map some) cs


theorem same48 (cs to wr : List D) (hk : Knd kAct cs) (h9 : cs[9]? = some (.lst 1 to)) (h15 : cs[15]? = some (.lst 5 wr)) (hto : StrL to) (hwr : WrapL wr) (hB : to.length ≤ 1048576) (hB' : wr.length ≤ 1048576) (τ : List Ob) :
    callA Try.prog 48 [.d (.agg cs), .d (.agg cs)] τ fun r σ' => r = .d (.bool true) ∧ σ' = τ := by
  refine callA_val ?_ τ rfl
  refine callA_le (ys := [.agg (cs.map .d), .agg (cs.map .d)]) ⟨_, _, rfl, VLe.agg' cs, _, _, rfl, VLe.agg' cs, rfl⟩ ?_
  refine w48.go fun K hK => ?_
  have hlen : cs.length = 20 := hk.length
  have en : ∀ n : Int, (n != n) = false := by simp
  have b0 : [Ob.box (cs.map .d), .box (cs.map .d)][0]? = some (.box (cs.map .d)) := rfl
  have b1 : [Ob.box (cs.map .d), .box (cs.map .d)][1]? = some (.box (cs.map .d)) := rfl
  simp only [e48, c48, p48, Try.f48, codeOf, comp, opsOf, stOf, cop, cstp, copAt, planFor, List.find?, List.find?_nil, Option.map_none, Option.getD_none, List.any_cons, List.any_nil, Stp.idx, Bool.or_false, Nat.reduceBEq, lapp_cons, lapp_nil, ↓RP, RS, Int.reduceBEq, Int.reduceBNe, Int.reduceLT, Int.reduceLE, Int.reduceAdd, Int.reduceSub, ↓reduceIte, Nat.reduceAdd, Nat.reduceMul, Nat.reduceSub, Nat.reduceLT, Nat.reduceLeDiff, Nat.reduceEqDiff, decide_true, decide_false, fieldAddrF, undE, tupE, W48, boxE, cellsV]
  generalize [Ob.box (cs.map .d), .box (cs.map .d)] = σ at b0 b1 ⊢
  have a0 := alive_of b0 (by simp)
  have a1 := alive_of b1 (by simp)
  obtain ⟨g0, s0⟩ := hk.scal 0 rfl
  have Y0 := scal_eq s0 Try.prog 9
  have l0_0 := cel_load (P := Try.prog) (t := 9) b0 0 g0 (by simp only [W48]) (by simp only [W48])
  have l0_1 := cel_load (P := Try.prog) (t := 9) b1 0 g0 (by simp only [W48]) (by simp only [W48])
  obtain ⟨g1, s1⟩ := hk.scal 1 rfl
  have Y1 := scal_eq s1 Try.prog 3
  have l1_0 := cel_load (P := Try.prog) (t := 3) b0 1 g1 (by simp only [W48]) (by simp only [W48])
  have l1_1 := cel_load (P := Try.prog) (t := 3) b1 1 g1 (by simp only [W48]) (by simp only [W48])
  obtain ⟨g2, s2⟩ := hk.scal 2 rfl
  have Y2 := scal_eq s2 Try.prog 9
  have l2_0 := cel_load (P := Try.prog) (t := 9) b0 2 g2 (by simp only [W48]) (by simp only [W48])
  have l2_1 := cel_load (P := Try.prog) (t := 9) b1 2 g2 (by simp only [W48]) (by simp only [W48])
  obtain ⟨g3, s3⟩ := hk.scal 3 rfl
  have Y3 := scal_eq s3 Try.prog 3
  have l3_0 := cel_load (P := Try.prog) (t := 3) b0 3 g3 (by simp only [W48]) (by simp only [W48])
  have l3_1 := cel_load (P := Try.prog) (t := 3) b1 3 g3 (by simp only [W48]) (by simp only [W48])
  obtain ⟨g4, s4⟩ := hk.scal 4 rfl
  have Y4 := scal_eq s4 Try.prog 3
  have l4_0 := cel_load (P := Try.prog) (t := 3) b0 4 g4 (by simp only [W48]) (by simp only [W48])
  have l4_1 := cel_load (P := Try.prog) (t := 3) b1 4 g4 (by simp only [W48]) (by simp only [W48])
  obtain ⟨g5, s5⟩ := hk.scal 5 rfl
  have Y5 := scal_eq s5 Try.prog 9
  have l5_0 := cel_load (P := Try.prog) (t := 9) b0 5 g5 (by simp only [W48]) (by simp only [W48])
  have l5_1 := cel_load (P := Try.prog) (t := 9) b1 5 g5 (by simp only [W48]) (by simp only [W48])
  obtain ⟨g6, s6⟩ := hk.scal 6 rfl
  have Y6 := scal_eq s6 Try.prog 9
  have l6_0 := cel_load (P := Try.prog) (t := 9) b0 6 g6 (by simp only [W48]) (by simp only [W48])
  have l6_1 := cel_load (P := Try.prog) (t := 9) b1 6 g6 (by simp only [W48]) (by simp only [W48])
  obtain ⟨g7, s7⟩ := hk.scal 7 rfl
  have Y7 := scal_eq s7 Try.prog 3
  have l7_0 := cel_load (P := Try.prog) (t := 3) b0 7 g7 (by simp only [W48]) (by simp only [W48])
  have l7_1 := cel_load (P := Try.prog) (t := 3) b1 7 g7 (by simp only [W48]) (by simp only [W48])
  obtain ⟨g8, s8⟩ := hk.scal 8 rfl
  have Y8 := scal_eq s8 Try.prog 9
  have l8_0 := cel_load (P := Try.prog) (t := 9) b0 8 g8 (by simp only [W48]) (by simp only [W48])
  have l8_1 := cel_load (P := Try.prog) (t := 9) b1 8 g8 (by simp only [W48]) (by simp only [W48])
  obtain ⟨g10, s10⟩ := hk.scal 10 rfl
  have Y10 := scal_eq s10 Try.prog 9
  have l10_0 := cel_load (P := Try.prog) (t := 9) b0 10 g10 (by simp only [W48]) (by simp only [W48])
  have l10_1 := cel_load (P := Try.prog) (t := 9) b1 10 g10 (by simp only [W48]) (by simp only [W48])
  obtain ⟨g14, s14⟩ := hk.scal 14 rfl
  have Y14 := scal_eq s14 Try.prog 3
  have l14_0 := cel_load (P := Try.prog) (t := 3) b0 14 g14 (by simp only [W48]) (by simp only [W48])
  have l14_1 := cel_load (P := Try.prog) (t := 3) b1 14 g14 (by simp only [W48]) (by simp only [W48])
  obtain ⟨g16, s16⟩ := hk.scal 16 rfl
  have Y16 := scal_eq s16 Try.prog 3
  have l16_0 := cel_load (P := Try.prog) (t := 3) b0 16 g16 (by simp only [W48]) (by simp only [W48])
  have l16_1 := cel_load (P := Try.prog) (t := 3) b1 16 g16 (by simp only [W48]) (by simp only [W48])
  obtain ⟨g17, s17⟩ := hk.scal 17 rfl
  have Y17 := scal_eq s17 Try.prog 3
  have l17_0 := cel_load (P := Try.prog) (t := 3) b0 17 g17 (by simp only [W48]) (by simp only [W48])
  have l17_1 := cel_load (P := Try.prog) (t := 3) b1 17 g17 (by simp only [W48]) (by simp only [W48])
  have a11 := agv_same (P := Try.prog) (t := 83) hk 11 3 kS3 rfl F83.1 F83.2 (by simp only [W48])
  have q11_0 := agv_load (P := Try.prog) (t := 83) b0 11 3 (by simp only [W48]) (by omega) (by omega) (by simp only [W48])
  have q11_1 := agv_load (P := Try.prog) (t := 83) b1 11 3 (by simp only [W48]) (by omega) (by omega) (by simp only [W48])
  have a18 := agv_same (P := Try.prog) (t := 30) hk 18 2 kRng rfl F30.1 F30.2 (by simp only [W48])
  have q18_0 := agv_load (P := Try.prog) (t := 30) b0 18 2 (by simp only [W48]) (by omega) (by omega) (by simp only [W48])
  have q18_1 := agv_load (P := Try.prog) (t := 30) b1 18 2 (by simp only [W48]) (by omega) (by omega) (by simp only [W48])
  have l9_0 := load_box (P := Try.prog) (t := 38) (k := 9) b0 (d_get h9) (by simp only [W48]) (by simp only [W48])
  have l9_1 := load_box (P := Try.prog) (t := 38) (k := 9) b1 (d_get h9) (by simp only [W48]) (by simp only [W48])
  have l15_0 := load_box (P := Try.prog) (t := 84) (k := 15) b0 (d_get h15) (by simp only [W48]) (by simp only [W48])
  have l15_1 := load_box (P := Try.prog) (t := 84) (k := 15) b1 (d_get h15) (by simp only [W48]) (by simp only [W48])
  simp only [↓RP, RS, Int.reduceBEq, Int.reduceBNe, Int.reduceLT, Int.reduceLE, Int.reduceAdd, Int.reduceSub, ↓reduceIte, Nat.reduceAdd, Nat.reduceMul, Nat.reduceSub, Nat.reduceLT, Nat.reduceLeDiff, Nat.reduceEqDiff, decide_true, decide_false, fieldAddrF, undE, tupE, W48, a0, a1, l9_0, l9_1, l15_0, l15_1, en]
  refine Loop_k [2, 3, 4, 5] (fun k : Nat => fr 0 162 [(2, .ptr 0 0 0), (3, .ptr 1 0 0), (4, .d (.bool false)), (5, .d (.int .i64 k))]) (fun _ => σ) (fun k => k ≤ to.length) (fun k => to.length - k) 0 (by kernel_rfl) rfl (Nat.zero_le _) fun k hkk => ?_
  by_cases hlt : k < to.length
  · have e3 : decide ((k : Int) < (to.length : Int)) = true := by simpa using hlt
    obtain ⟨s, hs⟩ := hto _ (List.getElem_mem hlt)
    have x1 : ∀ σ, indexAddrF Try.prog 38 σ (.d (.lst 1 to)) (.d (.int .i64 (k : Int))) = some (.ipt [.str s]) := fun σ => index_lst1 (P := Try.prog) (t := 38) (e := 9) (by simp only [W48]) (by simp only [W48]) (by rw [List.getElem?_eq_getElem hlt, hs]) rfl
    have w1 : IntKind.i64.wrap ((k : Int) + 1) = ((k + 1 : Nat) : Int) := by rw [IntWalk.i64_in _ (by omega)]; rfl
    have es : (s == s) = true := by simp
    have ls : ∀ σ, loadF Try.prog 9 σ (.ipt [.str s]) = some (.d (.str s)) := fun σ => by simp only [loadF, takeD, W48, Bool.false_eq_true, if_false, if_true]
    simp only [fr, ↓RP, RS, Int.reduceBEq, Int.reduceBNe, Int.reduceLT, Int.reduceLE, Int.reduceAdd, Int.reduceSub, ↓reduceIte, Nat.reduceAdd, Nat.reduceMul, Nat.reduceSub, Nat.reduceLT, Nat.reduceLeDiff, Nat.reduceEqDiff, decide_true, decide_false, fieldAddrF, undE, tupE, W48, a0, a1, l9_0, l9_1, e3, x1, ls, strBin, es, w1]
    exact seqK_n ⟨k + 1, by omega, by omega, by kernel_rfl, rfl⟩
  have e3 : decide ((k : Int) < (to.length : Int)) = false := by simpa using hlt
  simp only [fr, ↓RP, RS, Int.reduceBEq, Int.reduceBNe, Int.reduceLT, Int.reduceLE, Int.reduceAdd, Int.reduceSub, ↓reduceIte, Nat.reduceAdd, Nat.reduceMul, Nat.reduceSub, Nat.reduceLT, Nat.reduceLeDiff, Nat.reduceEqDiff, decide_true, decide_false, fieldAddrF, undE, tupE, W48, a0, a1, l9_0, l9_1, e3]
  refine Loop_k [2, 3, 4, 6] (fun k : Nat => fr 0 162 [(2, .ptr 0 0 0), (3, .ptr 1 0 0), (4, .d (.bool false)), (6, .d (.int .i64 k))]) (fun _ => σ) (fun k => k ≤ wr.length) (fun k => wr.length - k) 0 (by kernel_rfl) rfl (Nat.zero_le _) fun k hkk => ?_
  by_cases hlt : k < wr.length
  · have e3 : decide ((k : Int) < (wr.length : Int)) = true := by simpa using hlt
    obtain ⟨ws, hs, hw⟩ := hwr _ (List.getElem_mem hlt)
    have x1 : ∀ σ, indexAddrF Try.prog 84 σ (.d (.lst 5 wr)) (.d (.int .i64 (k : Int))) = some (.ipt ws) := fun σ => index_lst (P := Try.prog) (t := 84) (e := 99) (by simp only [W48]) (by simp only [W48]) (by rw [List.getElem?_eq_getElem hlt, hs]) hw.length
    have w1 : IntKind.i64.wrap ((k : Int) + 1) = ((k + 1 : Nat) : Int) := by rw [IntWalk.i64_in _ (by omega)]; rfl
    have hw5 : ws.length = 5 := hw.length
    have ls : ∀ σ, loadF Try.prog 99 σ (.ipt ws) = some (.d (.agg ws)) := fun σ => by
      simp only [loadF, takeD, W48, if_true, hw5, Nat.le_refl, Nat.reduceLT, and_self]
      rw [List.take_of_length_le (by omega)]
    have es := fun σ => agg_same_ne (P := Try.prog) (t := 99) (σ := σ) F99.1 F99.2 (by simp only [W48]) hw.flat
    simp only [fr, ↓RP, RS, Int.reduceBEq, Int.reduceBNe, Int.reduceLT, Int.reduceLE, Int.reduceAdd, Int.reduceSub, ↓reduceIte, Nat.reduceAdd, Nat.reduceMul, Nat.reduceSub, Nat.reduceLT, Nat.reduceLeDiff, Nat.reduceEqDiff, decide_true, decide_false, fieldAddrF, undE, tupE, W48, a0, a1, l15_0, l15_1, e3, x1, ls, es, w1]
    exact seqK_n ⟨k + 1, by omega, by omega, by kernel_rfl, rfl⟩
  have e3 : decide ((k : Int) < (wr.length : Int)) = false := by simpa using hlt
  simp only [fr, ↓RP, RS, Int.reduceBEq, Int.reduceBNe, Int.reduceLT, Int.reduceLE, Int.reduceAdd, Int.reduceSub, ↓reduceIte, Nat.reduceAdd, Nat.reduceMul, Nat.reduceSub, Nat.reduceLT, Nat.reduceLeDiff, Nat.reduceEqDiff, decide_true, decide_false, fieldAddrF, undE, tupE, W48, a0, a1, l9_0, l9_1, l15_0, l15_1, e3]
  simp only [↓RP, RS, Int.reduceBEq, Int.reduceBNe, Int.reduceLT, Int.reduceLE, Int.reduceAdd, Int.reduceSub, ↓reduceIte, Nat.reduceAdd, Nat.reduceMul, Nat.reduceSub, Nat.reduceLT, Nat.reduceLeDiff, Nat.reduceEqDiff, decide_true, decide_false, fieldAddrF, undE, tupE, W48, a0, a1, Y0, l0_0, l0_1, Y1, l1_0, l1_1, Y2, l2_0, l2_1, Y3, l3_0, l3_1, Y4, l4_0, l4_1, Y5, l5_0, l5_1, Y6, l6_0, l6_1, Y7, l7_0, l7_1, Y8, l8_0, l8_1, Y10, l10_0, l10_1, Y14, l14_0, l14_1, Y16, l16_0, l16_1, Y17, l17_0, l17_1, a11, q11_0, q11_1, a18, q18_0, q18_1, l9_0, l9_1, l15_0, l15_1]
  exact hK.fin (by rfl) (Fin.drop0 _ _) ⟨rfl, rfl⟩

end Go.Proofs.Ytadddaafajennaa.Am
