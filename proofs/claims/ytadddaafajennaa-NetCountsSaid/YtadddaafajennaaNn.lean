/- The state of the law that counts: what the one link holds, and the list of the law. -/
import Derived.Test.YtadddaafajennaaNm
set_option linter.unusedSimpArgs false
set_option linter.unusedVariables false
set_option maxRecDepth 10000
namespace Go.Proofs.Ytadddaafajennaa.Am
open Go Go.Proofs

theorem map_erase {α β : Type} (f : α → β) : ∀ (l : List α) (a : Nat), (l.map f).eraseIdx a = (l.eraseIdx a).map f
  | [], a => rfl
  | x :: l, 0 => rfl
  | x :: l, a + 1 => by simp [map_erase f l a]

def nD (n : Nat) : D := .int .i64 n
def msgOf (i j : Nat) (n : Nat) : D := .agg (rcpt i j n)

def ArrN (σ : List Ob) (q : Option Nat) (ns : List Nat) : Prop := match q with | none => ns = [] | some q => ∃ mk, σ[q]? = some (.arr 1 mk (ns.map nD))

theorem ArrN.keep {σ σ' : List Ob} {q : Option Nat} {ns : List Nat} (h : ArrN σ q ns) (hk : ∀ p x, q = some p → σ[p]? = some x → σ'[p]? = some x) : ArrN σ' q ns := by
  cases q with
  | none => exact h
  | some q => obtain ⟨mk, h⟩ := h; exact ⟨mk, hk q _ rfl h⟩

/-- The network of four, of which one link has been used; the law's own list. -/
structure Cnt (L : Nat) (R : Nat → Nat) (i j : Nat) (σ : List Ob) (q : Option Nat) (os ns : List Nat) (b : Bool) (A : Links) (Q : Nat → Nat → Option Nat) (role : Nat → Role) : Prop where
  net : NetAt σ 1 4 A L R Q role
  own : ArrN σ q os
  oth : ∀ p, q = some p → role p = .other
  off : (A i j).1 = b
  lst : (A i j).2 = ns.map (msgOf i j)
  tot : totLen A 4 = ns.length

def Sta (L : Nat) (R : Nat → Nat) (i j : Nat) (σ : List Ob) (q : Option Nat) (os ns : List Nat) (b : Bool) : Prop := ∃ A Q role, Cnt L R i j σ q os ns b A Q role

section
variable {L : Nat} {R : Nat → Nat} {i j : Nat} {σ : List Ob} {q : Option Nat} {os ns : List Nat} {b : Bool}

theorem Sta.keep (h : Sta L R i j σ q os ns b) {σ' : List Ob} (hk : Keeps (fun _ => False) σ σ') : Sta L R i j σ' q os ns b := by
  obtain ⟨A, Q, role, h⟩ := h
  exact ⟨A, Q, role, h.net.keep hk (fun _ f => f.elim), h.own.keep (fun p x e hx => hk.get hx id), h.oth, h.off, h.lst, h.tot⟩
theorem Sta.ptr (h : Sta L R i j σ q os ns b) : σ[1]? = some (.box [.sl L 0 4]) := by
  obtain ⟨A, Q, role, h⟩ := h
  exact h.net.hx
theorem Sta.ownA (h : Sta L R i j σ q os ns b) : ArrN σ q os := by
  obtain ⟨A, Q, role, h⟩ := h
  exact h.own

theorem okL (hi : i < 4) (hj : j < 4) (hij : i ≠ j) : isL 4 (i : Int) (j : Int) := by unfold isL; omega

theorem Cnt.step {A : Links} {Q : Nat → Nat → Option Nat} {role : Nat → Role} (h : Cnt L R i j σ q os ns b A Q role) {σ' : List Ob} {A' : Links} {Q' : Nat → Nat → Option Nat} {role' : Nat → Role} (n1 : NetAt σ' 1 4 A' L R Q' role') (n2 : Kept role role' σ σ') {b' : Bool} {ns' : List Nat} (h1 : (A' i j).1 = b') (h2 : (A' i j).2 = ns'.map (msgOf i j)) (h3 : totLen A' 4 = ns'.length) : Sta L R i j σ' q os ns' b' := by
  refine ⟨A', Q', role', n1, h.own.keep fun p x e hx => (n2.get hx (h.oth p e)).1, fun p e => ?_, h1, h2, h3⟩
  have ho := h.own
  subst e
  obtain ⟨mk, ho⟩ := ho
  exact (n2.get ho (h.oth p rfl)).2

theorem Sta.size (h : Sta L R i j σ q os ns b) (hi : i < 4) (hj : j < 4) (hij : i ≠ j) : callA Try.prog 24 [.ptr 1 0 0, .d (.int .i64 i), .d (.int .i64 j)] σ (fun r σ' => r = .d (.int .i64 ns.length) ∧ σ' = σ) := by
  obtain ⟨A, Q, role, h⟩ := h
  refine callA_mono (size24 h.net i j) fun r σ' ⟨q1, q2⟩ => ⟨?_, q2⟩
  rw [q1, if_pos (okL hi hj hij)]
  simp [h.lst]
theorem Sta.offS (h : Sta L R i j σ q os ns b) (hi : i < 4) (hj : j < 4) (hij : i ≠ j) : callA Try.prog 26 [.ptr 1 0 0, .d (.int .i64 i), .d (.int .i64 j)] σ (fun r σ' => r = .d (.bool b) ∧ σ' = σ) := by
  obtain ⟨A, Q, role, h⟩ := h
  refine callA_mono (off26 h.net i j) fun r σ' ⟨q1, q2⟩ => ⟨?_, q2⟩
  rw [q1, if_pos (okL hi hj hij)]
  simp [h.off]
theorem Sta.total (h : Sta L R i j σ q os ns b) : callA Try.prog 28 [.ptr 1 0 0] σ (fun r σ' => r = .d (.int .i64 ns.length) ∧ σ' = σ) := by
  obtain ⟨A, Q, role, h⟩ := h
  refine callA_mono (total28 h.net) fun r σ' ⟨q1, q2⟩ => ⟨?_, q2⟩
  rw [q1, h.tot]

theorem Sta.cut (h : Sta L R i j σ q os ns b) (hi : i < 4) (hj : j < 4) (hij : i ≠ j) (b' : Bool) : callA Try.prog 21 [.ptr 1 0 0, .d (.int .i64 i), .d (.int .i64 j), .d (.bool b')] σ (fun r σ' => r = .d (.bool true) ∧ Sta L R i j σ' q os ns b') := by
  obtain ⟨A, Q, role, h⟩ := h
  have hL := okL hi hj hij
  refine callA_mono (cut21 h.net i j b') fun r σ' ⟨q1, Q', role', n1, n2⟩ => ⟨by simpa [hL] using q1, ?_⟩
  simp only [hL, if_true, Int.toNat_natCast] at n1
  refine h.step n1 n2 (by simp) (by simp [h.lst]) ?_
  have := tot_upd (A := A) (n := 4) hi hj (b', (A i j).2)
  have := h.tot
  simp only at *
  omega

theorem Sta.send (h : Sta L R i j σ q os ns b) (hi : i < 4) (hj : j < 4) (hij : i ≠ j) (hn : ns.length < 1024) (m : Nat) : callA Try.prog 13 [.ptr 1 0 0, .agg ((rcpt i j m).map .d)] σ (fun r σ' => r = .d (.bool (!b)) ∧ Sta L R i j σ' q os (if b = true then ns else ns ++ [m]) b) := by
  obtain ⟨A, Q, role, h⟩ := h
  have hL := okL hi hj hij
  have tu := tot_upd (A := A) (n := 4) hi hj ((A i j).1, (A i j).2 ++ [.agg (rcpt i j m)])
  refine callA_mono (send13 h.net (rcpt_ok i j m)) fun r σ' ⟨q1, Q', role', n1, n2⟩ => ?_
  have ho := h.off
  have hl := h.lst
  have ht := h.tot
  cases b with
  | true =>
    have no : ¬ okS 4 A (i : Int) (j : Int) := fun q => by have := q.2.1; simp [ho] at this
    simp only [no, if_false] at n1
    exact ⟨by simpa [no] using q1, h.step n1 n2 ho hl ht⟩
  | false =>
    have ok : okS 4 A (i : Int) (j : Int) := ⟨hL, by simp [ho], by simp [hl]; omega⟩
    simp only [ok, if_true, Int.toNat_natCast] at n1
    refine ⟨by simpa [ok] using q1, h.step n1 n2 (by simp [putS, ho]) (by simp [putS, hl, msgOf]) ?_⟩
    unfold putS
    simp only [List.length_append, List.length_cons, List.length_nil, hl, List.length_map] at tu ⊢
    simp
    omega


theorem Cnt.has {A : Links} {Q : Nat → Nat → Option Nat} {role : Nat → Role} (h : Cnt L R i j σ q os ns b A Q role) (hi : i < 4) (hj : j < 4) (hij : i ≠ j) {a : Nat} (ha : a < ns.length) : hasT 4 A (i : Int) (j : Int) (a : Int) := ⟨okL hi hj hij, by omega, by simp [h.lst]; omega⟩
theorem Cnt.hasno {A : Links} {Q : Nat → Nat → Option Nat} {role : Nat → Role} (h : Cnt L R i j σ q os ns b A Q role) {a : Int} (ha : ¬ (0 ≤ a ∧ a < ns.length)) : ¬ hasT 4 A (i : Int) (j : Int) a := fun q => by
  have h1 := q.2.1
  have h2 := q.2.2
  simp [h.lst] at h2
  omega
theorem Cnt.pop {A : Links} {Q : Nat → Nat → Option Nat} {role : Nat → Role} (h : Cnt L R i j σ q os ns b A Q role) (hi : i < 4) (hj : j < 4) (hij : i ≠ j) {a : Nat} (ha : a < ns.length) {σ' : List Ob} {Q' : Nat → Nat → Option Nat} {role' : Nat → Role} (n1 : NetAt σ' 1 4 (popS A i j a) L R Q' role') (n2 : Kept role role' σ σ') : Sta L R i j σ' q os (ns.eraseIdx a) b := by
  have tu := tot_upd (A := A) (n := 4) hi hj ((A i j).1, (A i j).2.eraseIdx a)
  have ho := h.off
  have hl := h.lst
  have ht := h.tot
  have el : (ns.map (msgOf i j)).eraseIdx a = (ns.eraseIdx a).map (msgOf i j) := map_erase _ _ _
  refine h.step n1 n2 (by simp [popS, ho]) (by simp [popS, hl, el]) ?_
  unfold popS
  simp only [hl, el, List.length_map] at tu ⊢
  have := List.length_eraseIdx_of_lt ha
  omega

theorem Sta.take (h : Sta L R i j σ q os ns b) (hi : i < 4) (hj : j < 4) (hij : i ≠ j) {a n : Nat} (ha : ns[a]? = some n) : callA Try.prog 15 [.ptr 1 0 0, .d (.int .i64 i), .d (.int .i64 j), .d (.int .i64 a)] σ (fun r σ' => r = .tup [.d (.agg (rcpt i j n)), .d (.bool true)] ∧ Sta L R i j σ' q os (ns.eraseIdx a) b) := by
  obtain ⟨A, Q, role, h⟩ := h
  have ha' := (List.getElem?_eq_some_iff.1 ha).1
  have ok := h.has hi hj hij ha'
  refine callA_mono (take15 h.net i j a) fun r σ' ⟨q1, Q', role', n1, n2⟩ => ?_
  simp only [ok, if_true, Int.toNat_natCast] at n1
  refine ⟨?_, h.pop hi hj hij ha' n1 n2⟩
  rw [q1]
  simp [msgT, ok, h.lst, ha, msgOf]
theorem Sta.take_no (h : Sta L R i j σ q os ns b) {a : Int} (ha : ¬ (0 ≤ a ∧ a < ns.length)) : callA Try.prog 15 [.ptr 1 0 0, .d (.int .i64 i), .d (.int .i64 j), .d (.int .i64 a)] σ (fun r σ' => r = .tup [.d noMsg, .d (.bool false)] ∧ Sta L R i j σ' q os ns b) := by
  obtain ⟨A, Q, role, h⟩ := h
  have no := h.hasno ha
  refine callA_mono (take15 h.net i j a) fun r σ' ⟨q1, Q', role', n1, n2⟩ => ?_
  simp only [no, if_false] at n1
  refine ⟨?_, h.step n1 n2 h.off h.lst h.tot⟩
  rw [q1]
  simp [msgT, no]
theorem Sta.lose (h : Sta L R i j σ q os ns b) (hi : i < 4) (hj : j < 4) (hij : i ≠ j) {a : Nat} (ha : a < ns.length) : callA Try.prog 17 [.ptr 1 0 0, .d (.int .i64 i), .d (.int .i64 j), .d (.int .i64 a)] σ (fun r σ' => r = .d (.bool true) ∧ Sta L R i j σ' q os (ns.eraseIdx a) b) := by
  obtain ⟨A, Q, role, h⟩ := h
  have ok := h.has hi hj hij ha
  refine callA_mono (lose17 h.net i j a) fun r σ' ⟨q1, Q', role', n1, n2⟩ => ?_
  simp only [ok, if_true, Int.toNat_natCast] at n1
  exact ⟨by rw [q1]; simp [ok], h.pop hi hj hij ha n1 n2⟩
theorem Sta.lose_no (h : Sta L R i j σ q os ns b) {a : Int} (ha : ¬ (0 ≤ a ∧ a < ns.length)) : callA Try.prog 17 [.ptr 1 0 0, .d (.int .i64 i), .d (.int .i64 j), .d (.int .i64 a)] σ (fun r σ' => r = .d (.bool false) ∧ Sta L R i j σ' q os ns b) := by
  obtain ⟨A, Q, role, h⟩ := h
  have no := h.hasno ha
  refine callA_mono (lose17 h.net i j a) fun r σ' ⟨q1, Q', role', n1, n2⟩ => ?_
  simp only [no, if_false] at n1
  exact ⟨by rw [q1]; simp [no], h.step n1 n2 h.off h.lst h.tot⟩
theorem Sta.twice (h : Sta L R i j σ q os ns b) (hi : i < 4) (hj : j < 4) (hij : i ≠ j) (hn : ns.length < 1024) {a n : Nat} (ha : ns[a]? = some n) : callA Try.prog 19 [.ptr 1 0 0, .d (.int .i64 i), .d (.int .i64 j), .d (.int .i64 a)] σ (fun r σ' => r = .d (.bool true) ∧ Sta L R i j σ' q os (ns ++ [n]) b) := by
  obtain ⟨A, Q, role, h⟩ := h
  have ha' := (List.getElem?_eq_some_iff.1 ha).1
  have ok : okW 4 A (i : Int) (j : Int) (a : Int) := ⟨h.has hi hj hij ha', by simp [h.lst]; omega⟩
  have tu := tot_upd (A := A) (n := 4) hi hj ((A i j).1, (A i j).2 ++ [msgOf i j n])
  refine callA_mono (twice19 h.net i j a) fun r σ' ⟨q1, Q', role', n1, n2⟩ => ?_
  have em : msgT 4 A (i : Int) (j : Int) (a : Int) = msgOf i j n := by simp [msgT, ok.1, h.lst, ha]
  simp only [ok, if_true, Int.toNat_natCast, em] at n1
  refine ⟨by rw [q1]; simp [ok], h.step n1 n2 (by simp [putS, h.off]) (by simp [putS, h.lst]) ?_⟩
  have ht := h.tot
  unfold putS
  simp only [List.length_append, List.length_cons, List.length_nil, h.lst, List.length_map] at tu ⊢
  omega
theorem Sta.twice_no (h : Sta L R i j σ q os ns b) {a : Int} (ha : ¬ (0 ≤ a ∧ a < ns.length)) : callA Try.prog 19 [.ptr 1 0 0, .d (.int .i64 i), .d (.int .i64 j), .d (.int .i64 a)] σ (fun r σ' => r = .d (.bool false) ∧ Sta L R i j σ' q os ns b) := by
  obtain ⟨A, Q, role, h⟩ := h
  have no : ¬ okW 4 A (i : Int) (j : Int) a := fun q => h.hasno ha q.1
  refine callA_mono (twice19 h.net i j a) fun r σ' ⟨q1, Q', role', n1, n2⟩ => ?_
  simp only [no, if_false] at n1
  exact ⟨by rw [q1]; simp [no], h.step n1 n2 h.off h.lst h.tot⟩

/-! the law's own list -/
theorem nD_one (ns : List Nat) : ∀ d ∈ ns.map nD, one1 d = true := by
  intro d hd
  obtain ⟨n, _, rfl⟩ := List.mem_map.1 hd
  rfl
theorem ArrN.len (h : ArrN σ q os) {P : Program} {t : TypeId} (ht : isSliceT P t = true) : builtinF P .len [t] σ [cellQ q os.length] = some (.d (.int .i64 os.length)) := by
  cases q with
  | none => simp only [ArrN] at h; subst h; simp [cellQ, len_nils, ht]
  | some q => obtain ⟨mk, h⟩ := h; rw [cellQ, len_sl, ht, alive_of h (by simp)]; rfl
theorem ArrN.at (h : ArrN σ q os) {a n : Nat} (ha : os[a]? = some n) {P : Program} {t e : TypeId} (he : elemOfSlice P t = some e) (hz : szOf P e = 1) (h1 : aggT P e = false) (h2 : okT P e = true) : ∃ p, indexAddrF P t σ (cellQ q os.length) (.d (.int .i64 a)) = some (.ptr p a 0) ∧ loadF P e σ (.ptr p a 0) = some (.d (.int .i64 n)) := by
  cases q with
  | none => simp only [ArrN] at h; subst h; simp at ha
  | some q =>
    obtain ⟨mk, h⟩ := h
    have := index_arr (P := P) (t := t) (kd := .i64) (off := 0) (len := os.length) h he hz (by omega) (List.getElem?_eq_some_iff.1 ha).1
    rw [Nat.zero_add] at this
    exact ⟨q, this, load_arr1 h (by simp [ha, nD]) rfl h1 h2⟩

theorem Sta.other (h : Sta L R i j σ q os ns b) {σ' : List Ob} {q' : Option Nat} {os' : List Nat} (hk : Keeps (fun o => q = some o) σ σ') (ha : ArrN σ' q' os') (hq : ∀ p, q' = some p → q = some p ∨ σ.length ≤ p) : Sta L R i j σ' q' os' ns b := by
  obtain ⟨A, Q, role, h⟩ := h
  refine ⟨A, Q, role, h.net.keep hk (fun o e => h.oth o e), ha, fun p e => ?_, h.off, h.lst, h.tot⟩
  rcases hq p e with g | g
  · exact h.oth p g
  · refine Classical.byContradiction fun q => ?_
    have := h.net.rlt p q
    omega

/-- The law appends to its list. -/
theorem Sta.app (h : Sta L R i j σ q os ns b) (hl : os.length ≤ 1048576) (n : Nat) : ∃ q' σ', appE Try.prog 55 55 (σ ++ [.arr 1 false [nD n]]) (cellQ q os.length) (.sl σ.length 0 1) = some (cellQ q' (os ++ [n]).length, σ') ∧ Sta L R i j σ' q' (os ++ [n]) ns b := by
  have g1 : (σ ++ [Ob.arr 1 false [nD n]])[σ.length]? = some (.arr 1 false [nD n]) := by simp
  have h1 : Sta L R i j (σ ++ [.arr 1 false [nD n]]) q os ns b := h.keep (Keeps.app _ _ _)
  have hs := src_sl (P := Try.prog) (tx := 55) (e := 3) (off := 0) (len := 1) g1 (by simp only [W4]) (by simp only [W4]) (by simp)
  have hs' : srcD Try.prog 3 (σ ++ [Ob.arr 1 false [nD n]]) 55 (.sl σ.length 0 1) = some [nD n] := hs
  cases q with
  | none =>
    have ho := h.ownA
    simp only [ArrN] at ho; subst ho
    have ap := app_nil (P := Try.prog) (t := 55) (e := 3) (by simp only [W4]) (by simp only [W4]) hs' (b := 8) (by simp only [W4]) (by simp) (by decide)
    rw [show szOf Try.prog 3 = 1 by simp only [W4]] at ap
    refine ⟨some (σ.length + 1), σ ++ [Ob.arr 1 false [nD n]] ++ [Ob.arr 1 false [nD n]], by rw [List.length_nil, cellQ, ap]; simp [cellQ], h1.other (Keeps.app _ _ _) ⟨false, ?_⟩ ?_⟩
    · rw [List.getElem?_append_right (by simp)]; simp
    · intro p e; cases e; right; simp
  | some q =>
    obtain ⟨mk, ho⟩ := h1.ownA
    obtain ⟨p, σ', a1, a2, a3, a4⟩ := app_any (P := Try.prog) (t := 55) (tx := 55) (e := 3) ho (by simp only [W4]) (by simp only [W4]) (by simp only [W4]) hs' (b := 8) (by simp only [W4]) (by simp; omega) (by decide)
    refine ⟨some p, σ', ?_, h1.other (a4.mono fun o e => by rw [e]) ⟨mk, by rw [a2]; simp⟩ ?_⟩
    · rw [List.length_map] at a1; rw [cellQ, a1]; simp [cellQ]
    · intro p' e; cases e
      rcases a3 with rfl | a3
      · exact .inl rfl
      · exact .inr a3

theorem Sta.without (h : Sta L R i j σ q os ns b) (hl : os.length ≤ 1048576) {a : Nat} (ha : a < os.length) : callA Try.prog 31 [cellQ q os.length, .d (.int .i64 a)] σ fun r σ' => ∃ q', r = cellQ q' (os.eraseIdx a).length ∧ Sta L R i j σ' q' (os.eraseIdx a) ns b := by
  cases q with
  | none =>
    have ho := h.ownA
    simp only [ArrN] at ho; subst ho
    simp at ha
  | some q =>
    obtain ⟨mk, ho⟩ := h.ownA
    have := without31 (i := a) ho (by simpa using ha) (by simpa using hl)
    rw [List.length_map] at this
    refine callA_mono this fun r σ' ⟨o', q1, q2, q3, q4⟩ => ⟨some o', ?_, h.other (q4.mono fun _ f => f.elim) ⟨false, ?_⟩ ?_⟩
    · rw [q1]; simp [cellQ, map_erase]
    · rw [q3, map_erase]
    · intro p e; cases e; exact .inr q2
end
end Go.Proofs.Ytadddaafajennaa.Am
