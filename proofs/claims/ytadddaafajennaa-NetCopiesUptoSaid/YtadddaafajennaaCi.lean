/- Messages read to the last cell; the walk of the law of copies. -/
import Derived.Test.YtadddaafajennaaCg
import Derived.Test.YtadddaafajennaaRb
set_option linter.unusedSimpArgs false
set_option linter.unusedVariables false
set_option maxRecDepth 10000
set_option maxHeartbeats 4000000
namespace Go.Proofs.Ytadddaafajennaa.Am
open Go Go.Proofs

def kOk : List (Option SK) → List Sh → Bool
  | [], [] => true
  | some .int :: r, .int _ :: l => kOk r l
  | some .str :: r, .str :: l => kOk r l
  | some .bool :: r, .bool :: l => kOk r l
  | none :: r, .lst _ _ _ :: l => kOk r l
  | _, _ => false

theorem knd_fit {B : Nat} : ∀ {ks : List (Option SK)} {shs : List Sh} {ds : List D}, kOk ks shs = true → Fits B shs ds → Knd ks ds
  | [], [], ds, h, g => by simpa [Fits, Knd] using g
  | some .int :: r, .int k :: l, ds, h, g => by
    simp only [Fits] at g
    obtain ⟨d, t, rfl, ⟨n, rfl, _⟩, g⟩ := g
    exact ⟨k, n, t, rfl, knd_fit (by simpa [kOk] using h) g⟩
  | some .str :: r, .str :: l, ds, h, g => by
    simp only [Fits] at g
    obtain ⟨d, t, rfl, ⟨n, rfl, _⟩, g⟩ := g
    exact ⟨n, t, rfl, knd_fit (by simpa [kOk] using h) g⟩
  | some .bool :: r, .bool :: l, ds, h, g => by
    simp only [Fits] at g
    obtain ⟨d, t, rfl, ⟨n, rfl⟩, g⟩ := g
    exact ⟨n, t, rfl, knd_fit (by simpa [kOk] using h) g⟩
  | none :: r, .lst sz ag es :: l, ds, h, g => by
    simp only [Fits] at g
    obtain ⟨d, t, rfl, ⟨n, rfl, _⟩, g⟩ := g
    exact ⟨sz, n, t, rfl, knd_fit (by simpa [kOk] using h) g⟩

def shStrs : Option Sh → Bool
  | some (.lst 1 false [.str]) => true
  | _ => false
theorem shStrs_eq {x : Option Sh} (h : shStrs x = true) : x = some (.lst 1 false [.str]) := by
  unfold shStrs at h
  split at h
  · rfl
  · cases h
def shWraps : Option Sh → Bool
  | some (.lst 5 true l) => kOk (kWrap.map some) l
  | _ => false
theorem shWraps_eq {x : Option Sh} (h : shWraps x = true) : ∃ l, x = some (.lst 5 true l) ∧ kOk (kWrap.map some) l = true := by
  unfold shWraps at h
  split at h
  · exact ⟨_, rfl, h⟩
  · cases h
theorem strs_fit {B : Nat} {l : List Sh} {ds : List D} (g : Fits B l ds) {k : Nat} (h : shStrs l[k]? = true) : ∃ es, ds[k]? = some (.lst 1 es) ∧ StrL es ∧ es.length ≤ B := by
  obtain ⟨d, h1, h2⟩ := g.get k (shStrs_eq h)
  obtain ⟨es, rfl, h3, h4⟩ := h2
  refine ⟨es, h1, fun e he => ?_, h3⟩
  have := h4 e he
  simp only [Fits] at this
  obtain ⟨d, t, e1, ⟨s, rfl, _⟩, e2⟩ := this
  cases e1
  exact ⟨s, rfl⟩
theorem wraps_fit {B : Nat} {l : List Sh} {ds : List D} (g : Fits B l ds) {k : Nat} (h : shWraps l[k]? = true) : ∃ es, ds[k]? = some (.lst 5 es) ∧ WrapL es ∧ es.length ≤ B := by
  obtain ⟨l', h0, h5⟩ := shWraps_eq h
  obtain ⟨d, h1, h2⟩ := g.get k h0
  obtain ⟨es, rfl, h3, h4⟩ := h2
  refine ⟨es, h1, fun e he => ?_, h3⟩
  obtain ⟨cs, rfl, h6⟩ := h4 e he
  exact ⟨cs, rfl, knd_fit h5 h6⟩

def shEntS (l : List Sh) : Bool := kOk kE l && (shStrs l[11]? && (shWraps l[17]? && shStrs l[44]?))
def shEntsS : Option Sh → Bool
  | some (.lst 50 true l) => shEntS l
  | _ => false
theorem shEntsS_eq {x : Option Sh} (h : shEntsS x = true) : ∃ l, x = some (.lst 50 true l) ∧ shEntS l = true := by
  unfold shEntsS at h
  split at h
  · exact ⟨_, rfl, h⟩
  · cases h
def shMsgS (l : List Sh) : Bool := kOk kM l && (shEntsS l[10]? && shStrs l[33]?)
theorem entS_fit {B : Nat} (hB : B ≤ 1048576) {l : List Sh} (h : shEntS l = true) {ds : List D} (g : Fits B l ds) : EntS (.agg ds) := by
  simp only [shEntS, Bool.and_eq_true] at h
  obtain ⟨h1, h2, h3, h4⟩ := h
  obtain ⟨a, a1, a2, a3⟩ := strs_fit g h2
  obtain ⟨b, b1, b2, b3⟩ := wraps_fit g h3
  obtain ⟨c, c1, c2, c3⟩ := strs_fit g h4
  exact ⟨ds, a, b, c, rfl, knd_fit h1 g, a1, b1, c1, a2, b2, c2, by omega, by omega, by omega⟩
theorem msgS_fit {B : Nat} (hB : B ≤ 1048576) {l : List Sh} (h : shMsgS l = true) {ds : List D} (g : Fits B l ds) : MsgS ds := by
  simp only [shMsgS, Bool.and_eq_true] at h
  obtain ⟨h1, h2, h3⟩ := h
  obtain ⟨le, e1, e2⟩ := shEntsS_eq h2
  obtain ⟨d, b1, b2⟩ := g.get 10 e1
  obtain ⟨es, rfl, b3, b4⟩ := b2
  obtain ⟨lk, c1, c2, c3⟩ := strs_fit g h3
  refine ⟨knd_fit h1 g, es, lk, b1, c1, c2, fun e he => ?_, by omega, by omega⟩
  obtain ⟨cs, rfl, h6⟩ := b4 e he
  exact entS_fit hB e2 h6


def shMsg1 : Option (List Sh) → Bool
  | some l => shMsgS l
  | none => false

/-! ### from the kinds of the cells -/
theorem Knd.pln : ∀ {ks : List (Option SK)} {ds : List D}, Knd ks ds → ∀ (k : Nat) (d : D), ks[k]? ≠ some none → ds[k]? = some d → plnD d = true
  | [], ds, h, k, d, _, e => by simp only [Knd] at h; subst h; simp at e
  | some .int :: r, ds, h, k, d, hn, e => by
    obtain ⟨k', n, t, rfl, h⟩ := h
    cases k with
    | zero => simp at e; subst e; rfl
    | succ k => exact Knd.pln h k d (by simpa using hn) (by simpa using e)
  | some .str :: r, ds, h, k, d, hn, e => by
    obtain ⟨n, t, rfl, h⟩ := h
    cases k with
    | zero => simp at e; subst e; rfl
    | succ k => exact Knd.pln h k d (by simpa using hn) (by simpa using e)
  | some .bool :: r, ds, h, k, d, hn, e => by
    obtain ⟨n, t, rfl, h⟩ := h
    cases k with
    | zero => simp at e; subst e; rfl
    | succ k => exact Knd.pln h k d (by simpa using hn) (by simpa using e)
  | none :: r, ds, h, k, d, hn, e => by
    obtain ⟨sz, n, t, rfl, h⟩ := h
    cases k with
    | zero => simp at hn
    | succ k => exact Knd.pln h k d (by simpa using hn) (by simpa using e)
theorem Knd.plns : ∀ {ks : List SK} {ds : List D}, Knd (ks.map some) ds → plnDs ds = true
  | [], ds, h => by simp only [List.map_nil, Knd] at h; subst h; rfl
  | .int :: r, ds, h => by
    obtain ⟨k', n, t, rfl, h⟩ := h
    simp only [plnDs, plnD, Bool.true_and]; exact Knd.plns h
  | .str :: r, ds, h => by
    obtain ⟨n, t, rfl, h⟩ := h
    simp only [plnDs, plnD, Bool.true_and]; exact Knd.plns h
  | .bool :: r, ds, h => by
    obtain ⟨n, t, rfl, h⟩ := h
    simp only [plnDs, plnD, Bool.true_and]; exact Knd.plns h
theorem plnDs_all : ∀ {l : List D}, (∀ d ∈ l, plnD d = true) → plnDs l = true
  | [], _ => rfl
  | d :: l, h => by simp only [plnDs, Bool.and_eq_true]; exact ⟨h d (by simp), plnDs_all fun x hx => h x (by simp [hx])⟩
theorem StrL.pln {l : List D} (h : StrL l) : plnDs l = true := plnDs_all fun d hd => by obtain ⟨s, rfl⟩ := h d hd; rfl
theorem WrapL.pln {l : List D} (h : WrapL l) : plnDs l = true := plnDs_all fun d hd => by
  obtain ⟨cs, rfl, hk⟩ := h d hd
  simp only [plnD]; exact hk.plns

theorem kE_none : ∀ k, k ≠ 11 → k ≠ 17 → k ≠ 44 → kE[k]? ≠ some none := fun k h1 h2 h3 => by
  intro e
  have hl := (List.getElem?_eq_some_iff.1 e).1
  have key : ∀ k : _root_.Fin 50, k.1 ≠ 11 → k.1 ≠ 17 → k.1 ≠ 44 → kE[k.1]? ≠ some none := by decide
  exact key ⟨k, hl⟩ h1 h2 h3 e
theorem kM_none : ∀ k, k ≠ 10 → k ≠ 33 → kM[k]? ≠ some none := fun k h1 h2 => by
  intro e
  have hl := (List.getElem?_eq_some_iff.1 e).1
  have key : ∀ k : _root_.Fin 34, k.1 ≠ 10 → k.1 ≠ 33 → kM[k.1]? ≠ some none := by decide
  exact key ⟨k, hl⟩ h1 h2 e

theorem EntS.p {e : D} (h : EntS e) : EntP e := by
  obtain ⟨es, to, wr, to', rfl, hk, h1, h2, h3, s1, s2, s3, b1, b2, b3⟩ := h
  exact ⟨es, to, wr, to', rfl, hk.length, hk.one, h1, h2, h3, b1, b2, b3, fun k d n1 n2 n3 hd => hk.pln k d (kE_none k n1 n2 n3) hd, s1.pln, s2.pln, s3.pln⟩
theorem MsgS.is {ms : List D} (h : MsgS ms) : ∃ ents lk, MsgIs ms ents lk := by
  obtain ⟨hk, ents, lk, h10, h33, hlk, hents, hB, hB2⟩ := h
  exact ⟨ents, lk, hk.length, hk.one, h10, h33, fun e he => (hents e he).p, hB, hB2, fun k d n1 n2 hd => hk.pln k d (kM_none k n1 n2) hd, hlk.pln⟩

theorem Knd.setInt : ∀ {ks : List (Option SK)} {ds : List D}, Knd ks ds → ∀ (i : Nat) (k : IntKind) (n : Int), ks[i]? = some (some .int) → Knd ks (ds.set i (.int k n))
  | [], ds, h, i, k, n, e => by simp at e
  | some .int :: r, ds, h, i, k, n, e => by
    obtain ⟨k', n', t, rfl, h⟩ := h
    cases i with
    | zero => exact ⟨k, n, t, rfl, h⟩
    | succ i => exact ⟨k', n', _, rfl, Knd.setInt h i k n (by simpa using e)⟩
  | some .str :: r, ds, h, i, k, n, e => by
    obtain ⟨n', t, rfl, h⟩ := h
    cases i with
    | zero => simp at e
    | succ i => exact ⟨n', _, rfl, Knd.setInt h i k n (by simpa using e)⟩
  | some .bool :: r, ds, h, i, k, n, e => by
    obtain ⟨n', t, rfl, h⟩ := h
    cases i with
    | zero => simp at e
    | succ i => exact ⟨n', _, rfl, Knd.setInt h i k n (by simpa using e)⟩
  | none :: r, ds, h, i, k, n, e => by
    obtain ⟨sz, n', t, rfl, h⟩ := h
    cases i with
    | zero => simp at e
    | succ i => exact ⟨sz, n', _, rfl, Knd.setInt h i k n (by simpa using e)⟩

theorem MsgS.ft {ms : List D} (h : MsgS ms) (a b : Int) : MsgS ((ms.set 1 (.int .i64 a)).set 2 (.int .i64 b)) := by
  obtain ⟨hk, ents, lk, h10, h33, r⟩ := h
  refine ⟨(hk.setInt 1 .i64 a rfl).setInt 2 .i64 b rfl, ents, lk, ?_, ?_, r⟩
  · rw [List.getElem?_set_ne (by decide), List.getElem?_set_ne (by decide)]; exact h10
  · rw [List.getElem?_set_ne (by decide), List.getElem?_set_ne (by decide)]; exact h33

/-- A message in memory of its own is the same as the data it stands for. -/
theorem same23v {σ : List Ob} {lo hi : Nat} {c ms : _} (h : OM σ lo hi c ms) (hs : MsgS ms) : callA Try.prog 23 [.agg c, .agg (ms.map .d)] σ fun r σ' => r = .d (.bool true) ∧ σ' = σ := by
  have hd : ReadV σ (.agg (ms.map .d)) (.agg ms) := .agg (.of_get (by simp) fun k x d e1 e2 => by
    rw [List.getElem?_map, e2] at e1
    simp only [Option.map_some, Option.some.injEq] at e1
    subst e1; exact .d σ d)
  refine callA_mono (callA_thaw (ds := [.agg ms, .agg ms]) (same23 ms hs []) (fun r σ' q => by obtain ⟨rfl, rfl⟩ := q; exact ⟨rfl, by simp⟩) (.cons h.read (.cons hd (.nil σ)))) fun r τ' q => ?_
  obtain ⟨r0, σ0, ⟨rfl, rfl⟩, rfl, rfl⟩ := q
  exact ⟨rfl, by simp [storeBack, backInto]⟩

theorem Keeps.same2 {S : Nat → Prop} {σ σ' : List Ob} (h : Keeps S σ σ') {lo hi : Nat} (hs : ∀ o, lo ≤ o → o < hi → ¬ S o) : Same2 lo hi σ σ' := fun o x h1 h2 ho => h.get ho (hs o h1 h2)

theorem renVs_get (g : Nat → Option Nat) : ∀ (cs : List V) (k : Nat), (renVs g cs)[k]? = (cs[k]?).map (renV g)
  | [], k => by simp [renVs]
  | c :: cs, 0 => by simp [renVs]
  | c :: cs, k + 1 => by simp only [renVs, List.getElem?_cons_succ, renVs_get g cs k]

theorem new9v (τ : List Ob) : callA Try.prog 9 [.d (.int .i64 20)] τ fun r σ' => r = .ptr (τ.length + 1) 0 0 ∧ LkAt σ' (τ.length + 1) τ.length (τ.length + 5) (.d .nils) ∧ Keeps (fun _ => False) τ σ' ∧ τ.length + 6 ≤ σ'.length := by
  refine callA_mono (callA_at (new9c 20) τ rfl) fun r σ' q => ?_
  obtain ⟨r0, σ0, ⟨rfl, rfl⟩, rfl, rfl⟩ := q
  have e : nStore (manyOf 20) (manyOf 20) = nStore 20 20 := rfl
  rw [e]
  have hat : ∀ k, (τ ++ (nStore 20 20).map (embO [] τ.length))[τ.length + k]? = ((nStore 20 20)[k]?).map (embO [] τ.length) := fun k => by
    rw [List.getElem?_append_right (by omega), Nat.add_sub_cancel_left, List.getElem?_map]
  refine ⟨by simp [embV, renV, emb], ⟨?_, ⟨_, (hat 0).trans rfl, ?_⟩, ⟨_, (hat 5).trans rfl, rfl, rfl⟩⟩, Keeps.app _ _ _, by simp [nStore]⟩
  · rw [hat 1]
    show some (Ob.box (renVs (fun o => some (emb [] τ.length o)) [V.sl 0 0 20])) = _
    simp [renVs, renV, emb]
  · rw [renVs_get]
    have : (nRows 20 20)[3]? = some (.sl 5 0 20) := rfl
    rw [this]
    simp [renV, emb]

theorem OM.ft {σ : List Ob} {lo hi : Nat} {c : List V} {ms : List D} (h : OM σ lo hi c ((ms.set 1 (.int .i64 3)).set 2 (.int .i64 2))) : c[1]? = some (.d (.int .i64 3)) ∧ c[2]? = some (.d (.int .i64 2)) := by
  obtain ⟨ents, lk, vE, vK, g1, rfl, _⟩ := h
  have hl : ms.length = 34 := by have := g1.len; simpa using this
  constructor
  · rw [List.getElem?_set_ne (by decide), List.getElem?_set_ne (by decide), List.getElem?_map, List.getElem?_set_ne (by decide), List.getElem?_set_self (by omega)]; rfl
  · rw [List.getElem?_set_ne (by decide), List.getElem?_set_ne (by decide), List.getElem?_map, List.getElem?_set_self (by simp; omega)]; rfl

theorem copies6 (ms : List D) (hs : MsgS ms) : callA Try.prog 6 [.d (.agg ms)] [] fun r _ => r = .d (.bool true) := by
  refine callA_le (ys := [.agg (ms.map .d)]) ⟨_, _, rfl, VLe.agg' ms, rfl⟩ ?_
  refine w6.go fun K hK => ?_
  obtain ⟨ents, lk, hI⟩ := hs.is
  have hs' := hs.ft 3 2
  simp only [e6, c6, p6, Try.f6, codeOf, comp, opsOf, stOf, cop, cstp, copAt, planFor, List.find?, List.find?_nil, Option.map_none, Option.getD_none, List.any_cons, List.any_nil, Stp.idx, Bool.or_false, Nat.reduceBEq, ↓RP, RS, Int.reduceBEq, Int.reduceBNe, Int.reduceLT, Int.reduceLE, Int.reduceAdd, Int.reduceSub, ↓reduceIte, Nat.reduceAdd, Nat.reduceMul, Nat.reduceSub, Nat.reduceLT, Nat.reduceLeDiff, Nat.reduceEqDiff, decide_true, decide_false, fieldAddrF, undE, tupE, W6, boxE, cellsV]
  refine CallK_use' (small8 _) fun v σ' ⟨q1, q2⟩ => ?_
  subst q1; subst q2
  simp only [↓RP, RS, Int.reduceBEq, Int.reduceBNe, Int.reduceLT, Int.reduceLE, Int.reduceAdd, Int.reduceSub, ↓reduceIte, Nat.reduceAdd, Nat.reduceMul, Nat.reduceSub, Nat.reduceLT, Nat.reduceLeDiff, Nat.reduceEqDiff, decide_true, decide_false, fieldAddrF, undE, tupE, W6]
  refine CallK_use' (new9v _) fun v σ1 ⟨q1, hL1, k1, len1⟩ => ?_
  subst q1
  simp only [List.length_cons, List.length_nil, Nat.zero_add, Nat.reduceAdd] at hL1 len1 ⊢
  have g0 : σ1[0]? = some (.box (ms.map .d)) := k1.get rfl (fun h => h)
  have a0 := alive_of g0 (by simp)
  have a2 := alive_of hL1.hx (by simp)
  have e1 := load_box (P := Try.prog) (t := 33) (k := 10) g0 (d_get hI.ents_) (by simp only [W6]) (by simp only [W6])
  have e2 := load_box (P := Try.prog) (t := 38) (k := 33) g0 (d_get hI.link) (by simp only [W6]) (by simp only [W6])
  by_cases c1 : 3 < (ents.length : Int)
  · have d1 : decide (3 < (ents.length : Int)) = true := by simpa using c1
    simp only [↓RP, RS, Int.reduceBEq, Int.reduceBNe, Int.reduceLT, Int.reduceLE, Int.reduceAdd, Int.reduceSub, ↓reduceIte, Nat.reduceAdd, Nat.reduceMul, Nat.reduceSub, Nat.reduceLT, Nat.reduceLeDiff, Nat.reduceEqDiff, decide_true, decide_false, fieldAddrF, undE, tupE, W6, a0, a2, e1, d1]
    exact hK.ret (by rfl) (by rfl)
  have d1 : decide (3 < (ents.length : Int)) = false := by simpa using c1
  by_cases c2 : 10 < (lk.length : Int)
  · have d2 : decide (10 < (lk.length : Int)) = true := by simpa using c2
    simp only [↓RP, RS, Int.reduceBEq, Int.reduceBNe, Int.reduceLT, Int.reduceLE, Int.reduceAdd, Int.reduceSub, ↓reduceIte, Nat.reduceAdd, Nat.reduceMul, Nat.reduceSub, Nat.reduceLT, Nat.reduceLeDiff, Nat.reduceEqDiff, decide_true, decide_false, fieldAddrF, undE, tupE, W6, a0, a2, e1, e2, d1, d2]
    exact hK.ret (by rfl) (by rfl)
  have d2 : decide (10 < (lk.length : Int)) = false := by simpa using c2
  have s1 := store_box (P := Try.prog) (t := 3) (k := 1) (x := .d (.int .i64 3)) g0 rfl (by simp [hI.len]) (by simp only [W6])
  have g1 : (σ1.set 0 (.box ((ms.map V.d).set 1 (.d (.int .i64 3)))))[0]? = some (.box ((ms.map V.d).set 1 (.d (.int .i64 3)))) := set_at g0 _
  have s2 := store_box (P := Try.prog) (t := 3) (k := 2) (x := .d (.int .i64 2)) g1 rfl (by simp [hI.len]) (by simp only [W6])
  rw [List.set_set] at s2
  have hms : ((ms.map V.d).set 1 (.d (.int .i64 3))).set 2 (.d (.int .i64 2)) = ((ms.set 1 (.int .i64 3)).set 2 (.int .i64 2)).map V.d := by simp [List.map_set]
  rw [hms] at s2
  have hft : ∀ (σ : List Ob) (lo hi : Nat) (c : List V), OM σ lo hi c ((ms.set 1 (.int .i64 3)).set 2 (.int .i64 2)) → c[1]? = some (.d (.int .i64 3)) ∧ c[2]? = some (.d (.int .i64 2)) := fun σ lo hi c h => h.ft
  generalize hmt : (ms.set 1 (.int .i64 3)).set 2 (.int .i64 2) = mt at *
  obtain ⟨ents', lk', hJ⟩ := hs'.is
  have hz : z42.length = 34 := by decide
  -- the message without the law's own lists
  have a1' : alive (σ1.set 0 (.box ((ms.map V.d).set 1 (.d (.int .i64 3))))) 0 = true := alive_of g1 (by simp)
  have k2 : Keeps (fun o => o = 0) σ1 (σ1.set 0 (.box (mt.map V.d))) := Keeps.set _ _ rfl
  have hL2 := hL1.keep k2 (by decide) (by decide) (by decide)
  have g2 : (σ1.set 0 (.box (mt.map V.d)))[0]? = some (.box (mt.map V.d)) := set_at g0 _
  have len2 : (σ1.set 0 (.box (mt.map V.d))).length = σ1.length := by simp
  generalize hσ2 : σ1.set 0 (.box (mt.map V.d)) = σ2 at *
  have a3 := alive_of g2 (by simp)
  have e3 := load_all (P := Try.prog) (t := 42) g2 (by simp [hJ.len, W6]) (by simp only [W6]) (by simp [W6])
  simp only [↓RP, RS, Int.reduceBEq, Int.reduceBNe, Int.reduceLT, Int.reduceLE, Int.reduceAdd, Int.reduceSub, ↓reduceIte, Nat.reduceAdd, Nat.reduceMul, Nat.reduceSub, Nat.reduceLT, Nat.reduceLeDiff, Nat.reduceEqDiff, decide_true, decide_false, fieldAddrF, undE, tupE, W6, a0, a1', a2, e1, e2, d1, d2, s1, s2, a3, e3]
  have hread : ∀ σ, ReadV σ (.agg (mt.map .d)) (.agg mt) := fun σ => .agg (.of_get (by simp) fun k x d e1 e2 => by
    rw [List.getElem?_map, e2] at e1
    simp only [Option.map_some, Option.some.injEq] at e1
    subst e1; exact .d σ d)
  -- own
  refine CallK_use' (NewM.at (own33n hJ) (hread _)) fun v σ3 ⟨mine, q1, hm3, k3⟩ => ?_
  subst q1
  have hL3 := hL2.keep k3 (fun h => h) (fun h => h) (fun h => h)
  have g3 : σ3[0]? = some (.box (mt.map V.d)) := k3.get g2 (fun h => h)
  have len3 : σ2.length ≤ σ3.length := k3.1
  -- its box
  have n4 : (σ3 ++ [Ob.box z42])[σ3.length]? = some (.box z42) := by simp
  have hm4' : OM (σ3 ++ [Ob.box z42]) σ2.length σ3.length mine mt := hm3.keep (fun o x _ _ ho => app_get ho _) (Nat.le_refl _) (Nat.le_refl _)
  have s4 := store_agg (P := Try.prog) (t := 42) (k := 0) (xs := mine) n4 hm4'.all_one (by simp [hm3.len, hz]) (by simp [hm3.len, W6]) (by simp [W6])
  rw [setAt_all (by simp [hm3.len, hz]), List.set_append_right _ _ (Nat.le_refl _), Nat.sub_self, List.set_cons_zero] at s4
  have k4 : Keeps (fun _ => False) σ3 (σ3 ++ [Ob.box mine]) := Keeps.app _ _ _
  have hL4 := hL3.keep k4 (fun h => h) (fun h => h) (fun h => h)
  have g4 : (σ3 ++ [Ob.box mine])[0]? = some (.box (mt.map V.d)) := k4.get g3 (fun h => h)
  have m4 : (σ3 ++ [Ob.box mine])[σ3.length]? = some (.box mine) := by simp
  have hm4 := hm3.keep (k4.same2 fun _ _ _ h => h) (Nat.le_refl _) (Nat.le_refl _)
  have len4 : (σ3 ++ [Ob.box mine]).length = σ3.length + 1 := by simp
  generalize hB : σ3.length = B at *
  generalize hσ4 : σ3 ++ [Ob.box mine] = σ4 at *
  have a4 := alive_of m4 (by simp)
  have e4 := load_all (P := Try.prog) (t := 42) m4 (by simp [hm3.len, W6]) (by simp only [W6]) (by simp [W6])
  simp only [↓RP, RS, Int.reduceBEq, Int.reduceBNe, Int.reduceLT, Int.reduceLE, Int.reduceAdd, Int.reduceSub, ↓reduceIte, Nat.reduceAdd, Nat.reduceMul, Nat.reduceSub, Nat.reduceLT, Nat.reduceLeDiff, Nat.reduceEqDiff, decide_true, decide_false, fieldAddrF, undE, tupE, W6, allocE, hB, s4, a4, e4]
  -- Send
  obtain ⟨f1, f2⟩ := hft _ _ _ _ hm4
  refine CallK_use' (send13v hL4 (by decide) (by decide) hm4 hJ f1 f2) fun v σ5 ⟨q1, p1, lo1, hi1, c1', u1, u2, u3, hL5, hc1, lc1, hp1, k5⟩ => ?_
  subst q1
  have g5 : σ5[0]? = some (.box (mt.map V.d)) := k5.get g4 (by decide)
  have m5 : σ5[B]? = some (.box mine) := k5.get m4 (by omega)
  have hm5 := hm4.keep (k5.same2 fun o h1 h2 h => by omega) (Nat.le_refl _) (Nat.le_refl _)
  have hlo1 : lo1 < hi1 := by
    obtain ⟨_, _, _, _, _, _, _, o, _, _, h3, h4⟩ := hc1
    omega
  simp only [↓RP, RS, Int.reduceBEq, Int.reduceBNe, Int.reduceLT, Int.reduceLE, Int.reduceAdd, Int.reduceSub, ↓reduceIte, Nat.reduceAdd, Nat.reduceMul, Nat.reduceSub, Nat.reduceLT, Nat.reduceLeDiff, Nat.reduceEqDiff, decide_true, decide_false, fieldAddrF, undE, tupE, W6]
  -- Twice
  refine CallK_use' (twice19v hL5 (by decide) (by decide) (by omega) (by omega) (by omega) hp1 hc1 hJ) fun v σ6 ⟨q1, p2, lo2, hi2, c2', v1, v2, v3, hL6, hc2, lc2, hp2, k6⟩ => ?_
  subst q1
  have g6 : σ6[0]? = some (.box (mt.map V.d)) := k6.get g5 (by omega)
  have m6 : σ6[B]? = some (.box mine) := k6.get m5 (by omega)
  have hm6 := hm5.keep (k6.same2 fun o h1 h2 h => by omega) (Nat.le_refl _) (Nat.le_refl _)
  have hc16 := hc1.keep (k6.same2 fun o h1 h2 h => by omega) (Nat.le_refl _) (Nat.le_refl _)
  have hlo2 : lo2 < hi2 := by
    obtain ⟨_, _, _, _, _, _, _, o, _, _, h3, h4⟩ := hc2
    omega
  have a6 := alive_of m6 (by simp)
  have e6 := load_all (P := Try.prog) (t := 42) m6 (by simp [hm3.len, W6]) (by simp only [W6]) (by simp [W6])
  simp only [↓RP, RS, Int.reduceBEq, Int.reduceBNe, Int.reduceLT, Int.reduceLE, Int.reduceAdd, Int.reduceSub, ↓reduceIte, Nat.reduceAdd, Nat.reduceMul, Nat.reduceSub, Nat.reduceLT, Nat.reduceLeDiff, Nat.reduceEqDiff, decide_true, decide_false, fieldAddrF, undE, tupE, W6, a6, e6]
  -- spoil what was sent
  refine CallK_use' (spoil34 hm6 (by omega)) fun v σ7 k7 => ?_
  have hL7 := hL6.keep k7 (by omega) (by omega) (by omega)
  have g7 : σ7[0]? = some (.box (mt.map V.d)) := k7.get g6 (by omega)
  have hc17 := hc16.keep (k7.same2 fun o h1 h2 h => by omega) (Nat.le_refl _) (Nat.le_refl _)
  have hc27 := hc2.keep (k7.same2 fun o h1 h2 h => by omega) (Nat.le_refl _) (Nat.le_refl _)
  have hp7 : σ7[p2]? = some (.vec 34 (c1' ++ c2')) := k7.get hp2 (by omega)
  have len7 := k7.1
  simp only [↓RP, RS, Int.reduceBEq, Int.reduceBNe, Int.reduceLT, Int.reduceLE, Int.reduceAdd, Int.reduceSub, ↓reduceIte, Nat.reduceAdd, Nat.reduceMul, Nat.reduceSub, Nat.reduceLT, Nat.reduceLeDiff, Nat.reduceEqDiff, decide_true, decide_false, fieldAddrF, undE, tupE, W6]
  -- the first Take
  refine CallK_use' (take15v (n := 1) (cs' := c2' ++ z42) hL7 (by decide) (by decide) (by omega) (by omega) (by omega) hp7 lc1 hc17.all_one fun σx hx hup => del47v2 hx lc1 lc2 (List.all_eq_true.2 fun y hy => hup y (List.all_eq_true.1 hc27.all_one y hy))) fun v σ8 ⟨q1, hL8, hp8, k8⟩ => ?_
  subst q1
  have g8 : σ8[0]? = some (.box (mt.map V.d)) := k8.get g7 (by omega)
  have hc18 := hc17.keep (k8.same2 fun o h1 h2 h => by omega) (Nat.le_refl _) (Nat.le_refl _)
  have hc28 := hc27.keep (k8.same2 fun o h1 h2 h => by omega) (Nat.le_refl _) (Nat.le_refl _)
  have len8 := k8.1
  have n9 : (σ8 ++ [Ob.box z42])[σ8.length]? = some (.box z42) := by simp
  have s9 := store_agg (P := Try.prog) (t := 42) (k := 0) (xs := c1') n9 (hc18.keep (σ' := σ8 ++ [Ob.box z42]) (fun o x _ _ ho => app_get ho _) (Nat.le_refl _) (Nat.le_refl _)).all_one (by simp [lc1, hz]) (by simp [lc1, W6]) (by simp [W6])
  rw [setAt_all (by simp [lc1, hz]), List.set_append_right _ _ (Nat.le_refl _), Nat.sub_self, List.set_cons_zero] at s9
  have k9 : Keeps (fun _ => False) σ8 (σ8 ++ [Ob.box c1']) := Keeps.app _ _ _
  have hL9 := hL8.keep k9 (fun h => h) (fun h => h) (fun h => h)
  have g9 : (σ8 ++ [Ob.box c1'])[0]? = some (.box (mt.map V.d)) := k9.get g8 (fun h => h)
  have m9 : (σ8 ++ [Ob.box c1'])[σ8.length]? = some (.box c1') := by simp
  have hc19 := hc18.keep (k9.same2 fun _ _ _ h => h) (Nat.le_refl _) (Nat.le_refl _)
  have hc29 := hc28.keep (k9.same2 fun _ _ _ h => h) (Nat.le_refl _) (Nat.le_refl _)
  have hp9 := k9.get hp8 (fun h => h)
  have len9 : (σ8 ++ [Ob.box c1']).length = σ8.length + 1 := by simp
  generalize hC : σ8.length = C at *
  generalize hσ9 : σ8 ++ [Ob.box c1'] = σ9 at *
  have a9 := alive_of m9 (by simp)
  have a9' := alive_of g9 (by simp)
  have e9 := load_all (P := Try.prog) (t := 42) m9 (by simp [lc1, W6]) (by simp only [W6]) (by simp [W6])
  have e9' := load_all (P := Try.prog) (t := 42) g9 (by simp [hJ.len, W6]) (by simp only [W6]) (by simp [W6])
  simp only [↓RP, RS, Int.reduceBEq, Int.reduceBNe, Int.reduceLT, Int.reduceLE, Int.reduceAdd, Int.reduceSub, ↓reduceIte, Nat.reduceAdd, Nat.reduceMul, Nat.reduceSub, Nat.reduceLT, Nat.reduceLeDiff, Nat.reduceEqDiff, decide_true, decide_false, fieldAddrF, undE, tupE, W6, allocE, hC, s9, a9, a9', e9, e9', extractF]
  refine CallK_use' (same23v hc19 hs') fun v σ10 ⟨q1, q2⟩ => ?_
  subst q1; subst q2
  simp only [↓RP, RS, Int.reduceBEq, Int.reduceBNe, Int.reduceLT, Int.reduceLE, Int.reduceAdd, Int.reduceSub, ↓reduceIte, Nat.reduceAdd, Nat.reduceMul, Nat.reduceSub, Nat.reduceLT, Nat.reduceLeDiff, Nat.reduceEqDiff, decide_true, decide_false, fieldAddrF, undE, tupE, W6, a9, e9]
  -- spoil what was taken
  refine CallK_use' (spoil34 hc19 (by omega)) fun v σ11 k11 => ?_
  have hL11 := hL9.keep k11 (by omega) (by omega) (by omega)
  have g11 : σ11[0]? = some (.box (mt.map V.d)) := k11.get g9 (by omega)
  have hc211 := hc29.keep (k11.same2 fun o h1 h2 h => by omega) (Nat.le_refl _) (Nat.le_refl _)
  have hp11 : σ11[p2]? = some (.vec 34 (c2' ++ z42)) := k11.get hp9 (by omega)
  have len11 := k11.1
  simp only [↓RP, RS, Int.reduceBEq, Int.reduceBNe, Int.reduceLT, Int.reduceLE, Int.reduceAdd, Int.reduceSub, ↓reduceIte, Nat.reduceAdd, Nat.reduceMul, Nat.reduceSub, Nat.reduceLT, Nat.reduceLeDiff, Nat.reduceEqDiff, decide_true, decide_false, fieldAddrF, undE, tupE, W6]
  -- the second Take
  refine CallK_use' (take15v (n := 0) (cs' := z42 ++ z42) hL11 (by decide) (by decide) (by omega) (by omega) (by omega) hp11 lc2 hc211.all_one fun σx hx hup => del47v1 hx lc2 hz) fun v σ12 ⟨q1, hL12, hp12, k12⟩ => ?_
  subst q1
  have g12 : σ12[0]? = some (.box (mt.map V.d)) := k12.get g11 (by omega)
  have hc212 := hc211.keep (k12.same2 fun o h1 h2 h => by omega) (Nat.le_refl _) (Nat.le_refl _)
  have n13 : (σ12 ++ [Ob.box z42])[σ12.length]? = some (.box z42) := by simp
  have s13 := store_agg (P := Try.prog) (t := 42) (k := 0) (xs := c2') n13 (hc212.keep (σ' := σ12 ++ [Ob.box z42]) (fun o x _ _ ho => app_get ho _) (Nat.le_refl _) (Nat.le_refl _)).all_one (by simp [lc2, hz]) (by simp [lc2, W6]) (by simp [W6])
  rw [setAt_all (by simp [lc2, hz]), List.set_append_right _ _ (Nat.le_refl _), Nat.sub_self, List.set_cons_zero] at s13
  have k13 : Keeps (fun _ => False) σ12 (σ12 ++ [Ob.box c2']) := Keeps.app _ _ _
  have hL13 := hL12.keep k13 (fun h => h) (fun h => h) (fun h => h)
  have g13 : (σ12 ++ [Ob.box c2'])[0]? = some (.box (mt.map V.d)) := k13.get g12 (fun h => h)
  have m13 : (σ12 ++ [Ob.box c2'])[σ12.length]? = some (.box c2') := by simp
  have hc213 := hc212.keep (k13.same2 fun _ _ _ h => h) (Nat.le_refl _) (Nat.le_refl _)
  have hp13 := k13.get hp12 (fun h => h)
  have len12 := k12.1
  generalize hE : σ12.length = E at *
  generalize hσ13 : σ12 ++ [Ob.box c2'] = σ13 at *
  have a13 := alive_of m13 (by simp)
  simp only [↓RP, RS, Int.reduceBEq, Int.reduceBNe, Int.reduceLT, Int.reduceLE, Int.reduceAdd, Int.reduceSub, ↓reduceIte, Nat.reduceAdd, Nat.reduceMul, Nat.reduceSub, Nat.reduceLT, Nat.reduceLeDiff, Nat.reduceEqDiff, decide_true, decide_false, fieldAddrF, undE, tupE, W6, allocE, hE, s13, a13, extractF]
  -- the third Take
  refine CallK_use' (take15no hL13 (alive_of hp13 (by simp))) fun v σ14 ⟨q1, k14⟩ => ?_
  subst q1
  have g14 : σ14[0]? = some (.box (mt.map V.d)) := k14.get g13 (fun h => h)
  have m14 : σ14[E]? = some (.box c2') := k14.get m13 (fun h => h)
  have hc214 := hc213.keep (k14.same2 fun _ _ _ h => h) (Nat.le_refl _) (Nat.le_refl _)
  have n15 : (σ14 ++ [Ob.box z42])[σ14.length]? = some (.box z42) := by simp
  have s15 := store_agg (P := Try.prog) (t := 42) (k := 0) (xs := z42) n15 (z42_one _) (by simp) (by simp [W6]) (by simp [W6])
  rw [setAt_all rfl, set_same n15] at s15
  have g15 : (σ14 ++ [Ob.box z42])[0]? = some (.box (mt.map V.d)) := app_get g14 _
  have m15 : (σ14 ++ [Ob.box z42])[E]? = some (.box c2') := app_get m14 _
  have hc215 : OM (σ14 ++ [Ob.box z42]) lo2 hi2 c2' mt := hc214.keep (fun o x _ _ ho => app_get ho _) (Nat.le_refl _) (Nat.le_refl _)
  have a15 := alive_of m15 (by simp)
  have a15' := alive_of g15 (by simp)
  have e15 := load_all (P := Try.prog) (t := 42) m15 (by simp [lc2, W6]) (by simp only [W6]) (by simp [W6])
  have e15' := load_all (P := Try.prog) (t := 42) g15 (by simp [hJ.len, W6]) (by simp only [W6]) (by simp [W6])
  simp only [↓RP, RS, Int.reduceBEq, Int.reduceBNe, Int.reduceLT, Int.reduceLE, Int.reduceAdd, Int.reduceSub, ↓reduceIte, Nat.reduceAdd, Nat.reduceMul, Nat.reduceSub, Nat.reduceLT, Nat.reduceLeDiff, Nat.reduceEqDiff, decide_true, decide_false, fieldAddrF, undE, tupE, W6, allocE, s15, a15, a15', e15, e15', extractF]
  refine CallK_use' (same23v hc215 hs') fun v σ16 ⟨q1, q2⟩ => ?_
  subst q1; subst q2
  simp only [↓RP, RS, Int.reduceBEq, Int.reduceBNe, Int.reduceLT, Int.reduceLE, Int.reduceAdd, Int.reduceSub, ↓reduceIte, Nat.reduceAdd, Nat.reduceMul, Nat.reduceSub, Nat.reduceLT, Nat.reduceLeDiff, Nat.reduceEqDiff, decide_true, decide_false, fieldAddrF, undE, tupE, W6]
  exact hK.ret (by rfl) (by rfl)
end Go.Proofs.Ytadddaafajennaa.Am
