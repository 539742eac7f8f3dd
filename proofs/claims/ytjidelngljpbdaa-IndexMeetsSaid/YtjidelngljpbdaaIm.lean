/- The reference: Has, Insert, Words. -/
import Derived.Test.YtjidelngljpbdaaIl
set_option linter.unusedSimpArgs false
set_option linter.unusedVariables false
set_option maxRecDepth 10000
set_option maxHeartbeats 2000000
namespace Go.Proofs.Ytjidelngljpbdaa.Am
open Go Go.Proofs

theorem has23 {σ : List Ob} {va : V} {la : List W} (ha : LstAt σ va la) (hB : la.length ≤ 1048576) (s : W) : callA Try.prog 23 [va, .d (.str s)] σ fun r σ' => r = .d (.bool (decide (s ∈ la))) ∧ σ' = σ := by
  refine w23.go fun K hK => ?_
  have l1 := ha.len
  simp only [e23, c23, p23, Try.f23, codeOf, comp, opsOf, stOf, cop, cstp, copAt, planFor, List.find?, List.find?_nil, Option.map_none, Option.getD_none, List.any_cons, List.any_nil, Stp.idx, Bool.or_false, Nat.reduceBEq, ↓RP, RS, Int.reduceBEq, Int.reduceBNe, Int.reduceLT, Int.reduceLE, Int.reduceAdd, Int.reduceSub, ↓reduceIte, Nat.reduceAdd, Nat.reduceMul, Nat.reduceSub, Nat.reduceLT, Nat.reduceLeDiff, Nat.reduceEqDiff, decide_true, decide_false, fieldAddrF, undE, tupE, W23]
  refine Loop_k [0, 1, 5] (fun k : Nat => fr 0 18 [(0, va), (1, .d (.str s)), (5, .d (.int .i64 k))]) (fun _ => σ) (fun k => k ≤ la.length ∧ s ∉ la.take k) (fun k => la.length - k) 0 (by kernel_rfl) rfl ⟨Nat.zero_le _, by simp⟩ fun k ⟨hk, hpre⟩ => ?_
  by_cases hlt : k < la.length
  · have e3 : decide ((k : Int) < (la.length : Int)) = true := decide_eq_true (by omega)
    have w1 : IntKind.i64.wrap ((k : Int) + 1) = ((k + 1 : Nat) : Int) := by rw [IntWalk.i64_in _ (by omega)]; rfl
    obtain ⟨wa, ga⟩ : ∃ w, la[k]? = some w := ⟨_, List.getElem?_eq_getElem hlt⟩
    obtain ⟨ad, y1, y2⟩ := ha.get ga
    by_cases he : wa = s
    · subst he
      have e4 : (wa == wa) = true := by simp
      simp only [fr, ↓RP, RS, Int.reduceBEq, Int.reduceBNe, Int.reduceLT, Int.reduceLE, Int.reduceAdd, Int.reduceSub, ↓reduceIte, Nat.reduceAdd, Nat.reduceMul, Nat.reduceSub, Nat.reduceLT, Nat.reduceLeDiff, Nat.reduceEqDiff, decide_true, decide_false, fieldAddrF, undE, tupE, W23, l1, e3, y1, y2, strBin, e4]
      refine hK.ret (by rfl) ⟨?_, rfl⟩
      have : wa ∈ la := List.mem_of_getElem? ga
      simp [this]
    · have e4 : (wa == s) = false := by simpa using he
      simp only [fr, ↓RP, RS, Int.reduceBEq, Int.reduceBNe, Int.reduceLT, Int.reduceLE, Int.reduceAdd, Int.reduceSub, ↓reduceIte, Nat.reduceAdd, Nat.reduceMul, Nat.reduceSub, Nat.reduceLT, Nat.reduceLeDiff, Nat.reduceEqDiff, decide_true, decide_false, fieldAddrF, undE, tupE, W23, l1, e3, y1, y2, strBin, e4, w1]
      refine seqK_n ⟨k + 1, ⟨hlt, ?_⟩, by omega, by kernel_rfl, rfl⟩
      rw [List.take_add_one, ga]
      simp only [List.mem_append, Option.toList_some, List.mem_singleton, not_or]
      exact ⟨hpre, fun e => he e.symm⟩
  · have e3 : decide ((k : Int) < (la.length : Int)) = false := decide_eq_false (by omega)
    simp only [fr, ↓RP, RS, Int.reduceBEq, Int.reduceBNe, Int.reduceLT, Int.reduceLE, Int.reduceAdd, Int.reduceSub, ↓reduceIte, Nat.reduceAdd, Nat.reduceMul, Nat.reduceSub, Nat.reduceLT, Nat.reduceLeDiff, Nat.reduceEqDiff, decide_true, decide_false, fieldAddrF, undE, tupE, W23, l1, e3]
    rw [List.take_of_length_le (by omega)] at hpre
    refine hK.ret (by rfl) ⟨?_, rfl⟩
    simp [hpre]

/-! ### Insert -/
def Asc (l : List W) : Prop := l.Pairwise (fun a b => a < b)
structure InsOk (la : List W) (s : W) (k : Nat) (out : List W) (done : Bool) : Prop where
  asc : Asc out
  mem : ∀ w, w ∈ out ↔ w ∈ la.take k ∨ (done = true ∧ w = s ∧ s ∉ la)
  low : done = false → ∀ w ∈ out, w < s
  nd : done = false → s ∉ la
  below : ∀ w ∈ out, ∀ v ∈ la.drop k, w < v

theorem Asc.snoc {l : List W} (h : Asc l) {x : W} (hx : ∀ w ∈ l, w < x) : Asc (l ++ [x]) :=
  List.pairwise_append.2 ⟨h, by simp, fun a ha b hb => by simp at hb; subst hb; exact hx a ha⟩
theorem Asc.drop_lt {l : List W} (h : Asc l) {k : Nat} {x : W} (hx : l[k]? = some x) : ∀ v ∈ l.drop (k + 1), x < v := by
  have h1 : Asc (l.drop k) := h.sublist (List.drop_sublist _ _)
  obtain ⟨u, v⟩ := List.getElem?_eq_some_iff.1 hx
  rw [List.drop_eq_getElem_cons u, v] at h1
  exact (List.pairwise_cons.1 h1).1
theorem drop_split {l : List W} {k : Nat} {x : W} (hx : l[k]? = some x) : l.drop k = x :: l.drop (k + 1) := by
  obtain ⟨u, v⟩ := List.getElem?_eq_some_iff.1 hx
  rw [List.drop_eq_getElem_cons u, v]
theorem InsOk.ins {la : List W} {s : W} {k : Nat} {out : List W} (h : InsOk la s k out false) (hla : Asc la) {x : W} (hx : la[k]? = some x) (hs : s < x) : InsOk la s k (out ++ [s]) true := by
  refine ⟨h.asc.snoc (h.low rfl), fun w => ?_, fun e => (by cases e), fun e => (by cases e), fun w hw v hv => ?_⟩
  · have := h.nd rfl
    simp only [List.mem_append, h.mem, List.mem_singleton]
    constructor
    · rintro ((g | g) | g)
      · exact .inl g
      · cases g.1
      · exact .inr ⟨trivial, g, this⟩
    · rintro (g | g)
      · exact .inl (.inl g)
      · exact .inr g.2.1
  · rcases List.mem_append.1 hw with hw | hw
    · exact h.below w hw v hv
    · simp at hw; subst hw
      rw [drop_split hx] at hv
      rcases List.mem_cons.1 hv with rfl | hv
      · exact hs
      · exact List.lt_trans hs (hla.drop_lt hx v hv)
theorem InsOk.push {la : List W} {s : W} {k : Nat} {out : List W} {done : Bool} (h : InsOk la s k out done) (hla : Asc la) {x : W} (hx : la[k]? = some x) (hs : done = true ∨ ¬ s < x) : InsOk la s (k + 1) (out ++ [x]) done := by
  have hd := drop_split hx
  refine ⟨h.asc.snoc fun w hw => h.below w hw x (by rw [hd]; simp), fun w => ?_, fun e w hw => ?_, h.nd, fun w hw v hv => ?_⟩
  · rw [List.take_add_one, hx]
    simp only [List.mem_append, h.mem, List.mem_singleton, Option.toList_some]
    constructor
    · rintro ((g | g) | g)
      · exact .inl (.inl g)
      · exact .inr g
      · exact .inl (.inr g)
    · rintro ((g | g) | g)
      · exact .inl (.inl g)
      · exact .inr g
      · exact .inl (.inr g)
  · rcases List.mem_append.1 hw with hw | hw
    · exact h.low e w hw
    · simp at hw; subst hw
      rcases hs with hs | hs
      · rw [hs] at e; cases e
      · have hne : w ≠ s := by rintro rfl; exact h.nd e (List.mem_of_getElem? hx)
        rcases List.le_iff_lt_or_eq.1 (List.not_lt.1 hs) with g | g
        · exact g
        · exact (hne g).elim
  · rcases List.mem_append.1 hw with hw | hw
    · exact h.below w hw v (by rw [hd]; simp [hv])
    · simp at hw; subst hw
      exact hla.drop_lt hx v hv
theorem InsOk.start {la : List W} (s : W) : InsOk la s 0 [] (decide (s ∈ la)) :=
  ⟨.nil, fun w => (by
    simp only [List.not_mem_nil, List.take_zero, false_or, false_iff, decide_eq_true_eq]
    rintro ⟨h, _, h3⟩
    exact h3 h), fun _ w hw => (by cases hw), fun e => (by simpa using e), fun w hw => (by cases hw)⟩

theorem insert27 {σ : List Ob} {va : V} {la : List W} (ha : LstAt σ va la) (hla : Asc la) (hB : la.length ≤ 1000000) (s : W) :
    callA Try.prog 27 [va, .d (.str s)] σ fun r σ' => ∃ l, LstAt σ' r l ∧ Asc l ∧ (∀ w, w ∈ l ↔ w = s ∨ w ∈ la) ∧ l.length ≤ la.length + 1 ∧ Keeps (fun _ => False) σ σ' ∧ (∀ q o n, r = .sl q o n → σ.length ≤ q) := by
  refine w27.go fun K hK => ?_
  simp only [e27, c27, p27, Try.f27, codeOf, comp, opsOf, stOf, cop, cstp, copAt, planFor, List.find?, List.find?_nil, Option.map_none, Option.getD_none, List.any_cons, List.any_nil, Stp.idx, Bool.or_false, Nat.reduceBEq, ↓RP, RS, Int.reduceBEq, Int.reduceBNe, Int.reduceLT, Int.reduceLE, Int.reduceAdd, Int.reduceSub, ↓reduceIte, Nat.reduceAdd, Nat.reduceMul, Nat.reduceSub, Nat.reduceLT, Nat.reduceLeDiff, Nat.reduceEqDiff, decide_true, decide_false, fieldAddrF, undE, tupE, W27]
  refine CallK_use' (has23 ha (by omega) s) fun v0 s1 ⟨q1, q2⟩ => ?_
  subst q1; rw [q2]
  simp only [↓RP, RS, Int.reduceBEq, Int.reduceBNe, Int.reduceLT, Int.reduceLE, Int.reduceAdd, Int.reduceSub, ↓reduceIte, Nat.reduceAdd, Nat.reduceMul, Nat.reduceSub, Nat.reduceLT, Nat.reduceLeDiff, Nat.reduceEqDiff, decide_true, decide_false, fieldAddrF, undE, tupE, W27]
  refine Loop_k [0, 1, 5, 6, 7] (fun y : Nat × List W × Bool × List Ob × Option Nat => fr 0 45 [(0, va), (1, .d (.str s)), (5, cellQ y.2.2.2.2 y.2.1.length), (6, .d (.bool y.2.2.1)), (7, .d (.int .i64 y.1))]) (fun y => y.2.2.2.1)
    (fun y => y.1 ≤ la.length ∧ y.2.1.length ≤ y.1 + 1 ∧ InsOk la s y.1 y.2.1 y.2.2.1 ∧ Keeps (fun _ => False) σ y.2.2.2.1 ∧ ArrK y.2.2.2.1 y.2.2.2.2 (y.2.1.map .str) ∧ (y.2.2.1 = false → y.2.1.length ≤ y.1) ∧ (∀ p, y.2.2.2.2 = some p → σ.length ≤ p)) (fun y => la.length - y.1) (0, [], decide (s ∈ la), σ, none) (by kernel_rfl) rfl ⟨Nat.zero_le _, by simp, InsOk.start s, Keeps.refl _ _, rfl, by simp, by simp⟩ fun ⟨k, out, done, sk, q⟩ ⟨hk, hol, hI, hkp, hA, hdl, hq⟩ => ?_
  simp only at hk hol hI hkp hA hdl hq ⊢
  have ha' := ha.keep hkp (fun _ _ _ _ h => h)
  have l1 := ha'.len
  by_cases hlt : k < la.length
  · have e3 : decide ((k : Int) < (la.length : Int)) = true := decide_eq_true (by omega)
    have w1 : IntKind.i64.wrap ((k : Int) + 1) = ((k + 1 : Nat) : Int) := by rw [IntWalk.i64_in _ (by omega)]; rfl
    obtain ⟨x, gx⟩ : ∃ w, la[k]? = some w := ⟨_, List.getElem?_eq_getElem hlt⟩
    obtain ⟨ad, y1, y2⟩ := ha'.get gx
    -- the element itself
    have push : ∀ (σ1 : List Ob) (q1 : Option Nat) (out1 : List W), ArrK σ1 q1 (out1.map .str) → out1.length ≤ 1048576 → ∃ p' σ2, appE Try.prog 23 23 (σ1 ++ [.arr 1 false [.str x]]) (cellQ q1 out1.length) (.sl σ1.length 0 1) = some (.sl p' 0 (out1.length + 1), σ2) ∧ ArrK σ2 (some p') ((out1 ++ [x]).map .str) ∧ σ1.length ≤ p' ∧ Keeps (fun o => q1 = some o) σ1 σ2 := by
      intro σ1 q1 out1 h1 h2
      obtain ⟨p', σ2, p1, p2, p3, p4⟩ := app_one (d := .str x) h1 (by simpa using h2) (t := 23) (e := 9) (b := 16) (by simp only [W27]) (by simp only [W27]) (by simp only [W27]) (by simp only [W27]) (by simp only [W27]) (by decide)
      rw [List.length_map] at p1
      exact ⟨p', σ2, p1, by rw [List.map_append]; exact p2, p3, p4⟩
    have kp : ∀ {σ1 σ2 : List Ob} {q1 : Option Nat}, Keeps (fun _ => False) σ σ1 → Keeps (fun o => q1 = some o) σ1 σ2 → (∀ p, q1 = some p → σ.length ≤ p) → Keeps (fun _ => False) σ σ2 := fun h1 h2 h3 => by
      refine ⟨Nat.le_trans h1.1 h2.1, fun o ho hn => ?_⟩
      rw [h2.2 o (Nat.lt_of_lt_of_le ho h1.1) (fun e => by have := h3 _ e; omega), h1.2 o ho hn]
    by_cases hc : done = false ∧ s < x
    · obtain ⟨rfl, hsx⟩ := hc
      have bl : Op.bytesLess s x = true := by rw [bytesLess_eq]; exact decide_eq_true hsx
      have bs := fun (s' : List V) (hg : get s' (.tmp 28) = .d (.str s)) => build23 (σ := sk) hg
      have hol' := hdl rfl
      obtain ⟨p', σ1, p1, p2, p3, p4⟩ := app_one (d := .str s) hA (by simp; omega) (t := 23) (e := 9) (b := 16) (by simp only [W27]) (by simp only [W27]) (by simp only [W27]) (by simp only [W27]) (by simp only [W27]) (by decide)
      rw [List.length_map] at p1
      have p2' : ArrK σ1 (some p') ((out ++ [s]).map .str) := by rw [List.map_append]; exact p2
      have hkp1 := kp hkp p4 hq
      have hq1 : ∀ p, some p' = some p → σ.length ≤ p := fun p e => by cases e; have := hkp.1; omega
      have ha1 := ha.keep hkp1 (fun _ _ _ _ h => h)
      obtain ⟨ad1, z1, z2⟩ := ha1.get gx
      have bs1 := fun (s' : List V) (hg : get s' (.tmp 35) = .d (.str x)) => build23 (σ := σ1) hg
      obtain ⟨p'', σ2, r1, r2, r3, r4⟩ := push σ1 (some p') (out ++ [s]) p2' (by simp; omega)
      simp only [cellQ, List.length_append, List.length_cons, List.length_nil, Nat.zero_add] at r1
      simp only [fr, ↓RP, RS, Int.reduceBEq, Int.reduceBNe, Int.reduceLT, Int.reduceLE, Int.reduceAdd, Int.reduceSub, ↓reduceIte, Nat.reduceAdd, Nat.reduceMul, Nat.reduceSub, Nat.reduceLT, Nat.reduceLeDiff, Nat.reduceEqDiff, decide_true, decide_false, fieldAddrF, undE, tupE, W27, l1, e3, y1, y2, strBin, bl, bs, bs1, List.toList_toArray, p1, z1, z2, r1, w1]
      refine seqK_n ⟨(k + 1, (out ++ [s]) ++ [x], true, σ2, some p''), ⟨hlt, by simp; omega, (hI.ins hla gx hsx).push hla gx (.inl rfl), kp hkp1 r4 hq1, r2, by simp, fun p e => by cases e; have := hkp1.1; omega⟩, by simp only; omega, by simp only [List.length_append, List.length_cons, List.length_nil]; kernel_rfl, rfl⟩
    · have hs : done = true ∨ ¬ s < x := by
        cases done with
        | true => exact .inl rfl
        | false => exact .inr fun h => hc ⟨rfl, h⟩
      have bs1 := fun (s' : List V) (hg : get s' (.tmp 35) = .d (.str x)) => build23 (σ := sk) hg
      obtain ⟨p'', σ2, r1, r2, r3, r4⟩ := push sk q out hA (by omega)
      have fin : ∀ s' : List V, keepS [0, 1, 5, 6, 7] 0 s' = fr 0 45 [(0, va), (1, .d (.str s)), (5, .sl p'' 0 (out.length + 1)), (6, .d (.bool done)), (7, .d (.int .i64 (k + 1 : Nat)))] → ∃ y : Nat × List W × Bool × List Ob × Option Nat, (y.1 ≤ la.length ∧ y.2.1.length ≤ y.1 + 1 ∧ InsOk la s y.1 y.2.1 y.2.2.1 ∧ Keeps (fun _ => False) σ y.2.2.2.1 ∧ ArrK y.2.2.2.1 y.2.2.2.2 (y.2.1.map .str) ∧ (y.2.2.1 = false → y.2.1.length ≤ y.1) ∧ (∀ p, y.2.2.2.2 = some p → σ.length ≤ p)) ∧ la.length - y.1 < la.length - k ∧ keepS [0, 1, 5, 6, 7] 0 s' = fr 0 45 [(0, va), (1, .d (.str s)), (5, cellQ y.2.2.2.2 y.2.1.length), (6, .d (.bool y.2.2.1)), (7, .d (.int .i64 y.1))] ∧ σ2 = y.2.2.2.1 := by
        intro s' h
        refine ⟨(k + 1, out ++ [x], done, σ2, some p''), ⟨hlt, by simp; omega, hI.push hla gx hs, kp hkp r4 hq, r2, fun e => by have := hdl e; simp; omega, fun p e => by cases e; have := hkp.1; omega⟩, by simp only; omega, ?_, rfl⟩
        rw [h]; simp only [List.length_append, List.length_cons, List.length_nil]; rfl
      cases done with
      | true =>
        simp only [fr, ↓RP, RS, Int.reduceBEq, Int.reduceBNe, Int.reduceLT, Int.reduceLE, Int.reduceAdd, Int.reduceSub, ↓reduceIte, Nat.reduceAdd, Nat.reduceMul, Nat.reduceSub, Nat.reduceLT, Nat.reduceLeDiff, Nat.reduceEqDiff, decide_true, decide_false, fieldAddrF, undE, tupE, W27, l1, e3, y1, y2, bs1, List.toList_toArray, r1, w1]
        exact seqK_n (fin _ (by kernel_rfl))
      | false =>
        have hsx : ¬ s < x := fun h => hc ⟨rfl, h⟩
        have bl : Op.bytesLess s x = false := by rw [bytesLess_eq]; exact decide_eq_false hsx
        simp only [fr, ↓RP, RS, Int.reduceBEq, Int.reduceBNe, Int.reduceLT, Int.reduceLE, Int.reduceAdd, Int.reduceSub, ↓reduceIte, Nat.reduceAdd, Nat.reduceMul, Nat.reduceSub, Nat.reduceLT, Nat.reduceLeDiff, Nat.reduceEqDiff, decide_true, decide_false, fieldAddrF, undE, tupE, W27, l1, e3, y1, y2, strBin, bl, bs1, List.toList_toArray, r1, w1]
        exact seqK_n (fin _ (by kernel_rfl))
  · have e3 : decide ((k : Int) < (la.length : Int)) = false := decide_eq_false (by omega)
    have hkl : k = la.length := by omega
    subst hkl
    have hmem := hI.mem
    rw [List.take_of_length_le (Nat.le_refl _)] at hmem
    cases done with
    | true =>
      simp only [fr, ↓RP, RS, Int.reduceBEq, Int.reduceBNe, Int.reduceLT, Int.reduceLE, Int.reduceAdd, Int.reduceSub, ↓reduceIte, Nat.reduceAdd, Nat.reduceMul, Nat.reduceSub, Nat.reduceLT, Nat.reduceLeDiff, Nat.reduceEqDiff, decide_true, decide_false, fieldAddrF, undE, tupE, W27, l1, e3]
      refine hK.ret (by rfl) ⟨out, hA.lst, hI.asc, fun w => ?_, hol, hkp, fun q' o n e => ?_⟩
      · rw [hmem]
        by_cases hs : s ∈ la
        · simp only [hs, not_true, and_false, or_false]
          constructor
          · exact .inr
          · rintro (rfl | h)
            · exact hs
            · exact h
        · simp only [hs, not_false_eq_true, and_true, true_and]
          exact Or.comm
      · cases q with
        | none => simp only [cellQ] at e; cases e
        | some p => simp only [cellQ] at e; cases e; exact hq _ rfl
    | false =>
      have bs := fun (s' : List V) (hg : get s' (.tmp 41) = .d (.str s)) => build23 (σ := sk) hg
      obtain ⟨p', σ1, p1, p2, p3, p4⟩ := app_one (d := .str s) hA (by simp; omega) (t := 23) (e := 9) (b := 16) (by simp only [W27]) (by simp only [W27]) (by simp only [W27]) (by simp only [W27]) (by simp only [W27]) (by decide)
      rw [List.length_map] at p1
      have p2' : ArrK σ1 (some p') ((out ++ [s]).map .str) := by rw [List.map_append]; exact p2
      have hl := p2'.lst
      simp only [cellQ, List.length_append, List.length_cons, List.length_nil, Nat.zero_add] at hl
      have hol' := hdl rfl
      simp only [fr, ↓RP, RS, Int.reduceBEq, Int.reduceBNe, Int.reduceLT, Int.reduceLE, Int.reduceAdd, Int.reduceSub, ↓reduceIte, Nat.reduceAdd, Nat.reduceMul, Nat.reduceSub, Nat.reduceLT, Nat.reduceLeDiff, Nat.reduceEqDiff, decide_true, decide_false, fieldAddrF, undE, tupE, W27, l1, e3, bs, List.toList_toArray, p1]
      refine hK.ret (by rfl) ⟨out ++ [s], hl, hI.asc.snoc (hI.low rfl), fun w => ?_, by simp; omega, ?_, fun q' o n e => by cases e; have := hkp.1; omega⟩
      · simp only [List.mem_append, hmem, List.mem_singleton]
        constructor
        · rintro ((g | g) | g)
          · exact .inr g
          · cases g.1
          · exact .inl g
        · rintro (g | g)
          · exact .inr g
          · exact .inl (.inl g)
      · refine ⟨Nat.le_trans hkp.1 p4.1, fun o ho hn => ?_⟩
        rw [p4.2 o (Nat.lt_of_lt_of_le ho hkp.1) (fun e => by have := hq _ e; omega), hkp.2 o ho hn]
end Go.Proofs.Ytjidelngljpbdaa.Am
