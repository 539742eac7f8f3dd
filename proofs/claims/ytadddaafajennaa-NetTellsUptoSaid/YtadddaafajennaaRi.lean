/- Arguments that hold messages, read to the last cell; the two networks side by side. -/
import Derived.Test.YtadddaafajennaaRh
set_option linter.unusedSimpArgs false
set_option linter.unusedVariables false
set_option maxRecDepth 10000
set_option maxHeartbeats 2000000
namespace Go.Proofs.Ytadddaafajennaa.Am
open Go Go.Proofs

def kOk : List (Option SK) → List Sh → Bool
  | [], [] => true
  | some .int :: r, .int _ :: l => kOk r l
  | some .str :: r, .str :: l => kOk r l
  | some .bool :: r, .bool :: l => kOk r l
  | none :: r, .lst _ _ _ :: l => kOk r l
  | _, _ => false

theorem knd_fit {B : Nat} : ∀ {ks : List (Option SK)} {shs : List Sh} {ds : List D}, kOk ks shs = true → Fits B shs ds → Knd ks ds
  | [], [], ds, h, g => by simpa [Fits, Knd] using g
  | some .int :: r, .int k :: l, ds, h, g => by
    simp only [Fits] at g
    obtain ⟨d, t, rfl, ⟨n, rfl, _⟩, g⟩ := g
    exact ⟨k, n, t, rfl, knd_fit (by simpa [kOk] using h) g⟩
  | some .str :: r, .str :: l, ds, h, g => by
    simp only [Fits] at g
    obtain ⟨d, t, rfl, ⟨n, rfl, _⟩, g⟩ := g
    exact ⟨n, t, rfl, knd_fit (by simpa [kOk] using h) g⟩
  | some .bool :: r, .bool :: l, ds, h, g => by
    simp only [Fits] at g
    obtain ⟨d, t, rfl, ⟨n, rfl⟩, g⟩ := g
    exact ⟨n, t, rfl, knd_fit (by simpa [kOk] using h) g⟩
  | none :: r, .lst sz ag es :: l, ds, h, g => by
    simp only [Fits] at g
    obtain ⟨d, t, rfl, ⟨n, rfl, _⟩, g⟩ := g
    exact ⟨sz, n, t, rfl, knd_fit (by simpa [kOk] using h) g⟩

def shStrs : Option Sh → Bool
  | some (.lst 1 false [.str]) => true
  | _ => false
theorem shStrs_eq {x : Option Sh} (h : shStrs x = true) : x = some (.lst 1 false [.str]) := by
  unfold shStrs at h
  split at h
  · rfl
  · cases h
def shWraps : Option Sh → Bool
  | some (.lst 5 true l) => kOk (kWrap.map some) l
  | _ => false
theorem shWraps_eq {x : Option Sh} (h : shWraps x = true) : ∃ l, x = some (.lst 5 true l) ∧ kOk (kWrap.map some) l = true := by
  unfold shWraps at h
  split at h
  · exact ⟨_, rfl, h⟩
  · cases h
theorem strs_fit {B : Nat} {l : List Sh} {ds : List D} (g : Fits B l ds) {k : Nat} (h : shStrs l[k]? = true) : ∃ es, ds[k]? = some (.lst 1 es) ∧ StrL es ∧ es.length ≤ B := by
  obtain ⟨d, h1, h2⟩ := g.get k (shStrs_eq h)
  obtain ⟨es, rfl, h3, h4⟩ := h2
  refine ⟨es, h1, fun e he => ?_, h3⟩
  have := h4 e he
  simp only [Fits] at this
  obtain ⟨d, t, e1, ⟨s, rfl, _⟩, e2⟩ := this
  cases e1
  exact ⟨s, rfl⟩
theorem wraps_fit {B : Nat} {l : List Sh} {ds : List D} (g : Fits B l ds) {k : Nat} (h : shWraps l[k]? = true) : ∃ es, ds[k]? = some (.lst 5 es) ∧ WrapL es ∧ es.length ≤ B := by
  obtain ⟨l', h0, h5⟩ := shWraps_eq h
  obtain ⟨d, h1, h2⟩ := g.get k h0
  obtain ⟨es, rfl, h3, h4⟩ := h2
  refine ⟨es, h1, fun e he => ?_, h3⟩
  obtain ⟨cs, rfl, h6⟩ := h4 e he
  exact ⟨cs, rfl, knd_fit h5 h6⟩

def shEntS (l : List Sh) : Bool := kOk kE l && (shStrs l[11]? && (shWraps l[17]? && shStrs l[44]?))
def shEntsS : Option Sh → Bool
  | some (.lst 50 true l) => shEntS l
  | _ => false
theorem shEntsS_eq {x : Option Sh} (h : shEntsS x = true) : ∃ l, x = some (.lst 50 true l) ∧ shEntS l = true := by
  unfold shEntsS at h
  split at h
  · exact ⟨_, rfl, h⟩
  · cases h
def shMsgS (l : List Sh) : Bool := kOk kM l && (shEntsS l[10]? && shStrs l[33]?)
theorem entS_fit {B : Nat} (hB : B ≤ 1048576) {l : List Sh} (h : shEntS l = true) {ds : List D} (g : Fits B l ds) : EntS (.agg ds) := by
  simp only [shEntS, Bool.and_eq_true] at h
  obtain ⟨h1, h2, h3, h4⟩ := h
  obtain ⟨a, a1, a2, a3⟩ := strs_fit g h2
  obtain ⟨b, b1, b2, b3⟩ := wraps_fit g h3
  obtain ⟨c, c1, c2, c3⟩ := strs_fit g h4
  exact ⟨ds, a, b, c, rfl, knd_fit h1 g, a1, b1, c1, a2, b2, c2, by omega, by omega, by omega⟩
theorem msgS_fit {B : Nat} (hB : B ≤ 1048576) {l : List Sh} (h : shMsgS l = true) {ds : List D} (g : Fits B l ds) : MsgS ds := by
  simp only [shMsgS, Bool.and_eq_true] at h
  obtain ⟨h1, h2, h3⟩ := h
  obtain ⟨le, e1, e2⟩ := shEntsS_eq h2
  obtain ⟨d, b1, b2⟩ := g.get 10 e1
  obtain ⟨es, rfl, b3, b4⟩ := b2
  obtain ⟨lk, c1, c2, c3⟩ := strs_fit g h3
  refine ⟨knd_fit h1 g, es, lk, b1, c1, c2, fun e he => ?_, by omega, by omega⟩
  obtain ⟨cs, rfl, h6⟩ := b4 e he
  exact entS_fit hB e2 h6

def shStepsS : Option (List Sh) → Bool
  | some [.lst 38 true l] => shStep l && shMsgS (l.drop 4)
  | _ => false
theorem shStepsS_eq {x : Option (List Sh)} (h : shStepsS x = true) : ∃ l, x = some [.lst 38 true l] ∧ shStep l = true ∧ shMsgS (l.drop 4) = true := by
  unfold shStepsS at h
  split at h
  · simp only [Bool.and_eq_true] at h
    exact ⟨_, rfl, h⟩
  · cases h
theorem sh22S : shStepsS (shapes Try.prog 12 22) = true := by kernel_rfl

def StepS (e : D) : Prop := ∃ cs d f t a m fm tm ents lk, e = .agg cs ∧ StepOk cs d f t a m fm tm ents lk ∧ MsgS m
theorem arg_stepsS {B : Nat} (hB : B ≤ 1048576) {x : D} (h : ArgFit Try.prog B 22 x) : ∃ es, x = .lst 38 es ∧ es.length ≤ B ∧ ∀ e ∈ es, StepS e := by
  obtain ⟨shs, h1, h2⟩ := h
  obtain ⟨l, g1, g2, g3⟩ := shStepsS_eq sh22S
  rw [g1] at h1; cases h1
  have ag := ag22'
  rw [ag] at h2
  obtain ⟨d, t, e, h3, h4⟩ := h2
  cases e
  obtain ⟨es, rfl, h4, h5⟩ := h3
  refine ⟨es, rfl, h4, fun e he => ?_⟩
  obtain ⟨cs, rfl, h6⟩ := h5 e he
  obtain ⟨d, f, t, a, m, fm, tm, ents, lk, ok⟩ := step_fit hB g2 h6
  refine ⟨cs, d, f, t, a, m, fm, tm, ents, lk, rfl, ok, ?_⟩
  rw [← ok.m4]
  exact msgS_fit hB g3 (h6.drop 4)

/-! ### side by side -/
def MsgG (m : D) : Prop := MsgF m ∧ ∃ ms, m = .agg ms ∧ MsgS ms
structure Tl (n k : Nat) (A : Links) (ls : List D) (cuts : List (Int × Int)) : Prop where
  rl : Rl n A ls cuts
  n20 : n ≤ 20
  ok : ∀ m ∈ ls, MsgG m
  l1 : ls.length ≤ k
  l2 : cuts.length ≤ k

section
variable {n k : Nat} {A : Links} {ls : List D} {cuts : List (Int × Int)}
theorem Tl.ref (h : Tl n k A ls cuts) (hk : k ≤ 900) : RefOk n ls cuts := ⟨h.n20, fun m hm => (h.ok m hm).1, by have := h.l1; omega, by have := h.l2; omega⟩
theorem Tl.more (h : Tl n k A ls cuts) : Tl n (k + 1) A ls cuts := ⟨h.rl, h.n20, h.ok, by have := h.l1; omega, by have := h.l2; omega⟩

theorem mFT {m : List D} {f t : Int} (c1 : m[1]? = some (.int .i64 f)) (c2 : m[2]? = some (.int .i64 t)) : mF (.agg m) = f ∧ mT (.agg m) = t := by simp [mF, mT, c1, c2]

theorem Tl.send (h : Tl n k A ls cuts) (hk : k ≤ 900) {m : List D} {f t : Int} {ents lk : List D} (hm : MsgOk m f t ents lk) (hs : MsgS m) :
    decide (Am.okS n A f t) = (decide (isL n f t) && !offR cuts f t) ∧ ∃ ls', (if isL n f t ∧ offR cuts f t = false then refL n (ls ++ [.agg m]) cuts else refL n ls cuts) = refL n ls' cuts ∧ Tl n (k + 1) (if Am.okS n A f t then putS A f.toNat t.toNat (.agg m) else A) ls' cuts := by
  have hl := h.l1
  have e := h.rl.okS (by omega) f t
  have hft := mFT hm.from_ hm.to_
  by_cases c : Am.okS n A f t
  · have c' := e.1 c
    obtain ⟨i, j, e1, e2, hi, hj, hij, e3, e4⟩ := isL_nat c'.1
    refine ⟨by simp [c, c'.1, c'.2], ls ++ [.agg m], by rw [if_pos c'], ?_⟩
    rw [if_pos c, e3, e4]
    refine ⟨h.rl.put hi hj hij (by rw [hft.1, e1]) (by rw [hft.2, e2]), h.n20, fun x hx => ?_, by simp; omega, by have := h.l2; omega⟩
    rcases List.mem_append.1 hx with hx | hx
    · exact h.ok x hx
    · simp at hx; subst hx
      exact ⟨⟨m, f, t, rfl, hm.len, hm.one, hm.from_, hm.to_⟩, m, rfl, hs⟩
  · have c' : ¬ (isL n f t ∧ offR cuts f t = false) := fun q => c (e.2 q)
    refine ⟨?_, ls, by rw [if_neg c'], by rw [if_neg c]; exact h.more⟩
    rw [decide_eq_false c]
    by_cases d1 : isL n f t
    · cases d2 : offR cuts f t with
      | true => simp
      | false => exact (c' ⟨d1, d2⟩).elim
    · simp [d1]

theorem Tl.pop (h : Tl n k A ls cuts) {f t i : Int} {j : Nat} (ha : atR f t ls i = some j) : Tl n (k + 1) (popS A f.toNat t.toNat i.toNat) (ls.eraseIdx j) cuts :=
  ⟨(h.rl.at_some ha).2.2.1, h.n20, fun m hm => h.ok m (List.mem_of_mem_eraseIdx hm), by have := List.length_eraseIdx_of_lt (atR_some ha).2; have := h.l1; omega, by have := h.l2; omega⟩
theorem Tl.got (h : Tl n k A ls cuts) {f t i : Int} {j : Nat} (ha : atR f t ls i = some j) : MsgG (ls.getD j noMsg) := by
  have hj := (atR_some ha).2
  rw [List.getD_eq_getElem?_getD, List.getElem?_eq_getElem hj]
  exact h.ok _ (List.getElem_mem hj)
theorem Tl.twice (h : Tl n k A ls cuts) (hk : k ≤ 900) {f t i : Int} {j : Nat} (ha : atR f t ls i = some j) : okW n A f t i ∧ Tl n (k + 1) (putS A f.toNat t.toNat (msgT n A f t i)) (ls ++ [ls.getD j noMsg]) cuts := by
  obtain ⟨h1, h2, h3, h4, h5, h6⟩ := h.rl.at_some ha
  have hl := h.l1
  have hlen := h.rl.len f t
  have hle := lenR_le ls f t
  rw [if_pos h6] at hlen
  obtain ⟨a, b, e1, e2, hi, hj, hij, e3, e4⟩ := isL_nat h6
  refine ⟨⟨h1, by omega⟩, ?_⟩
  rw [h2, e3, e4]
  refine ⟨h.rl.put hi hj hij (by rw [h4, e1]) (by rw [h5, e2]), h.n20, fun x hx => ?_, by simp; omega, by have := h.l2; omega⟩
  rcases List.mem_append.1 hx with hx | hx
  · exact h.ok x hx
  · simp at hx; subst hx
    have := h.got ha
    rw [List.getD_eq_getElem?_getD] at this
    exact this
theorem Tl.twice_no (h : Tl n k A ls cuts) {f t i : Int} (ha : atR f t ls i = none) : ¬ okW n A f t i := fun q => h.rl.at_none ha q.1
theorem Tl.cut (h : Tl n k A ls cuts) {f t : Int} (hL : isL n f t) (b : Bool) : Tl n (k + 1) (upd2 A f.toNat t.toNat (b, (A f.toNat t.toNat).2)) ls (cutR f t b cuts) := by
  obtain ⟨i, j, e1, e2, hi, hj, hij, e3, e4⟩ := isL_nat hL
  rw [e3, e4, e1, e2]
  refine ⟨h.rl.cut hi hj hij b, h.n20, h.ok, by have := h.l1; omega, ?_⟩
  have h1 : (keepC (i : Int) (j : Int) cuts).length ≤ cuts.length := List.length_filter_le _ _
  have := h.l2
  unfold cutR
  cases b <;> simp <;> omega
end

/-! ### the same wherever the reference lies -/
section
variable {n : Nat} {ls : List D} {cuts : List (Int × Int)} {σ : List Ob} {y : Nat}
theorem send14v (h : RefOk n ls cuts) {m : List D} {f t : Int} (m34 : m.length = 34) (m1 : m.all one1 = true) (c1 : m[1]? = some (.int .i64 f)) (c2 : m[2]? = some (.int .i64 t)) (hb : σ[y]? = some (.box ((refL n ls cuts).map .d))) :
    callA Try.prog 14 [.ptr y 0 0, .agg (m.map .d)] σ fun r σ' => r = .d (.bool (decide (isL n f t) && !offR cuts f t)) ∧ σ' = σ.set y (.box ((if isL n f t ∧ offR cuts f t = false then refL n (ls ++ [.agg m]) cuts else refL n ls cuts).map .d)) := by
  have := callA_box (send14 h m34 m1 c1 c2) hb
  have e : embVs [y] σ.length [.ptr 0 0 0, .agg (m.map .d)] = [.ptr y 0 0, .agg (m.map .d)] := by simp [embVs, renVs, renV, emb, renVs_d]
  rw [e] at this
  refine callA_mono this fun r σ' ⟨r0, ys, ⟨h1, h2⟩, h3, h4⟩ => ?_
  subst h1; subst h2
  exact ⟨h3, h4⟩
theorem emb4 (f t i : D) : embVs [y] σ.length [.ptr 0 0 0, .d f, .d t, .d i] = [.ptr y 0 0, .d f, .d t, .d i] := by simp [embVs, renVs, renV, emb]
theorem take16v (h : RefOk n ls cuts) (f t i : Int) (hb : σ[y]? = some (.box ((refL n ls cuts).map .d))) :
    callA Try.prog 16 [.ptr y 0 0, .d (.int .i64 f), .d (.int .i64 t), .d (.int .i64 i)] σ fun r σ' => match atR f t ls i with | some k => r = .tup [.d (ls.getD k noMsg), .d (.bool true)] ∧ σ' = σ.set y (.box ((refL n (ls.eraseIdx k) cuts).map .d)) | none => r = .tup [.d noMsg, .d (.bool false)] ∧ σ' = σ.set y (.box ((refL n ls cuts).map .d)) := by
  have := callA_box (take16 h f t i) hb
  rw [emb4] at this
  refine callA_mono this fun r σ' ⟨r0, ys, hk, h3, h4⟩ => ?_
  cases ha : atR f t ls i <;> rw [ha] at hk <;> obtain ⟨rfl, rfl⟩ := hk <;> exact ⟨h3, h4⟩
theorem lose18v (h : RefOk n ls cuts) (f t i : Int) (hb : σ[y]? = some (.box ((refL n ls cuts).map .d))) :
    callA Try.prog 18 [.ptr y 0 0, .d (.int .i64 f), .d (.int .i64 t), .d (.int .i64 i)] σ fun r σ' => match atR f t ls i with | some k => r = .d (.bool true) ∧ σ' = σ.set y (.box ((refL n (ls.eraseIdx k) cuts).map .d)) | none => r = .d (.bool false) ∧ σ' = σ.set y (.box ((refL n ls cuts).map .d)) := by
  have := callA_box (lose18 h f t i) hb
  rw [emb4] at this
  refine callA_mono this fun r σ' ⟨r0, ys, hk, h3, h4⟩ => ?_
  cases ha : atR f t ls i <;> rw [ha] at hk <;> obtain ⟨rfl, rfl⟩ := hk <;> exact ⟨h3, h4⟩
theorem twice20v (h : RefOk n ls cuts) (f t i : Int) (hb : σ[y]? = some (.box ((refL n ls cuts).map .d))) :
    callA Try.prog 20 [.ptr y 0 0, .d (.int .i64 f), .d (.int .i64 t), .d (.int .i64 i)] σ fun r σ' => match atR f t ls i with | some k => r = .d (.bool true) ∧ σ' = σ.set y (.box ((refL n (ls ++ [ls.getD k noMsg]) cuts).map .d)) | none => r = .d (.bool false) ∧ σ' = σ.set y (.box ((refL n ls cuts).map .d)) := by
  have := callA_box (twice20 h f t i) hb
  rw [emb4] at this
  refine callA_mono this fun r σ' ⟨r0, ys, hk, h3, h4⟩ => ?_
  cases ha : atR f t ls i <;> rw [ha] at hk <;> obtain ⟨rfl, rfl⟩ := hk <;> exact ⟨h3, h4⟩
theorem cut22v (h : RefOk n ls cuts) (f t : Int) (on : Bool) (hb : σ[y]? = some (.box ((refL n ls cuts).map .d))) :
    callA Try.prog 22 [.ptr y 0 0, .d (.int .i64 f), .d (.int .i64 t), .d (.bool on)] σ fun r σ' => r = .d (.bool (decide (isL n f t))) ∧ σ' = σ.set y (.box ((refL n ls (if isL n f t then cutR f t on cuts else cuts)).map .d)) := by
  have := callA_box (cut22 h f t on) hb
  rw [emb4] at this
  refine callA_mono this fun r σ' ⟨r0, ys, ⟨h1, h2⟩, h3, h4⟩ => ?_
  subst h1; subst h2
  exact ⟨h3, h4⟩
end
end Go.Proofs.Ytadddaafajennaa.Am
