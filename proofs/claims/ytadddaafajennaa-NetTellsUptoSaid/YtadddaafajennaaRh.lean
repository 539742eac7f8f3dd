/- The plain law: the network and the reference tell the same. -/
import Derived.Test.YtadddaafajennaaRg
set_option linter.unusedSimpArgs false
set_option linter.unusedVariables false
set_option maxRecDepth 10000
set_option maxHeartbeats 2000000
namespace Go.Proofs.Ytadddaafajennaa.Am
open Go Go.Proofs

structure Rl (n : Nat) (A : Links) (ls : List D) (cuts : List (Int × Int)) : Prop where
  msgs : ∀ i j : Nat, i < n → j < n → i ≠ j → (A i j).2 = ls.filter (isFT i j)
  offs : ∀ i j : Nat, i < n → j < n → i ≠ j → (A i j).1 = offR cuts i j
  tot : totLen A n = ls.length
  lok : ∀ m ∈ ls, isL n (mF m) (mT m)
  cok : ∀ c ∈ cuts, isL n c.1 c.2

theorem isFT_iff {f t : Int} {m : D} : isFT f t m = true ↔ mF m = f ∧ mT m = t := by simp [isFT]

theorem filter_none {f t : Int} {ls : List D} (h : ∀ m ∈ ls, ¬ (mF m = f ∧ mT m = t)) : ls.filter (isFT f t) = [] := by
  rw [List.filter_eq_nil_iff]
  intro m hm q
  exact h m hm (isFT_iff.1 q)

section
variable {n : Nat} {A : Links} {ls : List D} {cuts : List (Int × Int)}

theorem Rl.empty (h : Rl n A ls cuts) {f t : Int} (hn : ¬ isL n f t) : ls.filter (isFT f t) = [] := filter_none fun m hm ⟨e1, e2⟩ => hn (by have := h.lok m hm; rw [e1, e2] at this; exact this)

theorem Rl.len (h : Rl n A ls cuts) (f t : Int) : (if isL n f t then (A f.toNat t.toNat).2.length else 0) = lenR ls f t := by
  by_cases c : isL n f t
  · obtain ⟨i, j, e1, e2, hi, hj, hij, e3, e4⟩ := isL_nat c
    rw [if_pos c, e3, e4, h.msgs i j hi hj hij, e1, e2]; rfl
  · rw [if_neg c, lenR, h.empty c]; rfl

theorem Rl.off (h : Rl n A ls cuts) (f t : Int) : (if isL n f t then (A f.toNat t.toNat).1 else false) = offR cuts f t := by
  by_cases c : isL n f t
  · obtain ⟨i, j, e1, e2, hi, hj, hij, e3, e4⟩ := isL_nat c
    rw [if_pos c, e3, e4, h.offs i j hi hj hij, e1, e2]
  · rw [if_neg c]
    symm
    unfold offR
    rw [List.any_eq_false]
    intro x hx q
    simp only [Bool.and_eq_true, beq_iff_eq] at q
    have := h.cok x hx
    rw [q.1, q.2] at this
    exact c this

theorem Rl.put (h : Rl n A ls cuts) {i j : Nat} (hi : i < n) (hj : j < n) (hij : i ≠ j) {m : D} (e1 : mF m = i) (e2 : mT m = j) : Rl n (putS A i j m) (ls ++ [m]) cuts := by
  refine ⟨fun i' j' hi' hj' hij' => ?_, fun i' j' hi' hj' hij' => ?_, ?_, fun x hx => ?_, h.cok⟩
  · rw [List.filter_append]
    by_cases c : i' = i ∧ j' = j
    · obtain ⟨rfl, rfl⟩ := c
      have : isFT (i' : Int) (j' : Int) m = true := isFT_iff.2 ⟨e1, e2⟩
      simp [putS, upd2, h.msgs i' j' hi hj hij, this]
    · have : isFT (i' : Int) (j' : Int) m = false := by
        have q : ¬ isFT (i' : Int) (j' : Int) m = true := fun q => c (by have := isFT_iff.1 q; omega)
        simpa using q
      unfold putS
      rw [upd2_ne _ _ c, h.msgs i' j' hi' hj' hij']
      simp [this]
  · unfold putS
    by_cases c : i' = i ∧ j' = j
    · obtain ⟨rfl, rfl⟩ := c
      simp [upd2, h.offs i' j' hi hj hij]
    · rw [upd2_ne _ _ c, h.offs i' j' hi' hj' hij']
  · have := tot_upd (A := A) (n := n) hi hj ((A i j).1, (A i j).2 ++ [m])
    have := h.tot
    unfold putS
    simp at *
    omega
  · rcases List.mem_append.1 hx with hx | hx
    · exact h.lok x hx
    · simp at hx; subst hx
      rw [e1, e2]; unfold isL; omega

theorem Rl.cut (h : Rl n A ls cuts) {i j : Nat} (hi : i < n) (hj : j < n) (hij : i ≠ j) (b : Bool) : Rl n (upd2 A i j (b, (A i j).2)) ls (cutR i j b cuts) := by
  have hoff : ∀ i' j' : Nat, offR (cutR i j b cuts) i' j' = if i' = i ∧ j' = j then b else offR cuts i' j' := fun i' j' => by
    unfold offR cutR keepC
    rw [List.any_append, List.any_filter]
    by_cases c : i' = i ∧ j' = j
    · obtain ⟨rfl, rfl⟩ := c
      rw [if_pos ⟨rfl, rfl⟩]
      have : (cuts.any fun a => (!(a.1 == (i' : Int) && a.2 == (j' : Int))) && (a.1 == (i' : Int) && a.2 == (j' : Int))) = false := by
        rw [List.any_eq_false]
        intro x _
        cases (x.1 == (i' : Int) && x.2 == (j' : Int)) <;> simp
      rw [this]
      cases b <;> simp
    · rw [if_neg c]
      have h1 : ∀ x : Int × Int, ((!(x.1 == (i : Int) && x.2 == (j : Int))) && (x.1 == (i' : Int) && x.2 == (j' : Int))) = (x.1 == (i' : Int) && x.2 == (j' : Int)) := fun x => by
        cases g : (x.1 == (i' : Int) && x.2 == (j' : Int)) with
        | false => simp
        | true =>
          simp only [Bool.and_eq_true, beq_iff_eq] at g
          have : (x.1 == (i : Int) && x.2 == (j : Int)) = false := by
            have q : ¬ (x.1 == (i : Int) && x.2 == (j : Int)) = true := fun q => by
              simp only [Bool.and_eq_true, beq_iff_eq] at q
              exact c (by omega)
            simpa using q
          rw [this]; rfl
      simp only [h1]
      cases b with
      | false => simp only [List.any_nil, Bool.or_false]
      | true =>
        simp only [List.any_cons, List.any_nil, Bool.or_false]
        have q : ((i : Int) == (i' : Int) && (j : Int) == (j' : Int)) = false := by
          have q : ¬ ((i : Int) == (i' : Int) && (j : Int) == (j' : Int)) = true := fun q => by
            simp only [Bool.and_eq_true, beq_iff_eq] at q
            exact c (by omega)
          simpa using q
        rw [q, Bool.or_false]
  refine ⟨fun i' j' hi' hj' hij' => ?_, fun i' j' hi' hj' hij' => ?_, ?_, h.lok, fun x hx => ?_⟩
  · by_cases c : i' = i ∧ j' = j
    · obtain ⟨rfl, rfl⟩ := c
      simp [upd2, h.msgs i' j' hi hj hij]
    · rw [upd2_ne _ _ c, h.msgs i' j' hi' hj' hij']
  · rw [hoff]
    by_cases c : i' = i ∧ j' = j
    · rw [if_pos c]; obtain ⟨rfl, rfl⟩ := c
      simp [upd2]
    · rw [if_neg c, upd2_ne _ _ c, h.offs i' j' hi' hj' hij']
  · have := tot_upd (A := A) (n := n) hi hj (b, (A i j).2)
    have := h.tot
    simp only at *
    omega
  · unfold cutR at hx
    rcases List.mem_append.1 hx with hx | hx
    · exact h.cok x (List.mem_filter.1 hx).1
    · cases b <;> simp at hx
      subst hx; unfold isL; simp only; omega

theorem atR_neg {f t : Int} : ∀ {ls : List D} {i : Int}, i < 0 → atR f t ls i = none := fun {ls i} hi => by
  cases h : atR f t ls i with
  | none => rfl
  | some k => have := atR_some h; omega

/-- Where a link's message lies in the list of all. -/
theorem atR_spec {f t : Int} : ∀ (ls : List D) (i : Nat), match atR f t ls i with
    | none => (ls.filter (isFT f t)).length ≤ i
    | some k => ∃ m, ls[k]? = some m ∧ isFT f t m = true ∧ (ls.filter (isFT f t))[i]? = some m ∧ (ls.eraseIdx k).filter (isFT f t) = (ls.filter (isFT f t)).eraseIdx i ∧ ∀ p : D → Bool, p m = false → (ls.eraseIdx k).filter p = ls.filter p
  | [], i => by simp [atR]
  | m :: r, i => by
    rw [atR]
    by_cases c : isFT f t m = true
    · rw [if_pos c]
      cases i with
      | zero =>
        simp only [Int.natCast_zero, if_true]
        exact ⟨m, rfl, c, by simp [c], by simp [c], fun p hp => by simp [hp]⟩
      | succ i =>
        have e0 : ¬ (((i + 1 : Nat) : Int) = 0) := by omega
        have e1 : ((i + 1 : Nat) : Int) - 1 = (i : Int) := by omega
        rw [if_neg e0, e1]
        have ih := atR_spec (f := f) (t := t) r i
        cases hr : atR f t r i with
        | none =>
          rw [hr] at ih
          simp only [Option.map_none] at ih ⊢
          simp [c]; exact ih
        | some k =>
          rw [hr] at ih
          simp only [Option.map_some] at ih ⊢
          obtain ⟨x, h1, h2, h3, h4, h5⟩ := ih
          exact ⟨x, by simpa using h1, h2, by simpa [c] using h3, by simp [c, h4], fun p hp => by simp [List.filter_cons, h5 p hp]⟩
    · rw [if_neg c]
      have c' : isFT f t m = false := by simpa using c
      have ih := atR_spec (f := f) (t := t) r i
      cases hr : atR f t r i with
      | none =>
        rw [hr] at ih
        simp only [Option.map_none] at ih ⊢
        simp [c']; exact ih
      | some k =>
        rw [hr] at ih
        simp only [Option.map_some] at ih ⊢
        obtain ⟨x, h1, h2, h3, h4, h5⟩ := ih
        exact ⟨x, by simpa using h1, h2, by simpa [c'] using h3, by simp [c', h4], fun p hp => by simp [List.filter_cons, h5 p hp]⟩

theorem Rl.at_none (h : Rl n A ls cuts) {f t i : Int} (ha : atR f t ls i = none) : ¬ hasT n A f t i := fun ⟨hL, h0, hl⟩ => by
  obtain ⟨a, rfl⟩ : ∃ a : Nat, i = a := ⟨i.toNat, by omega⟩
  have sp := atR_spec (f := f) (t := t) ls a
  rw [ha] at sp
  obtain ⟨i, j, e1, e2, hi, hj, hij, e3, e4⟩ := isL_nat hL
  rw [e3, e4, h.msgs i j hi hj hij, ← e1, ← e2] at hl
  simp only at sp
  omega

theorem Rl.at_some (h : Rl n A ls cuts) {f t i : Int} {k : Nat} (ha : atR f t ls i = some k) : hasT n A f t i ∧ msgT n A f t i = ls.getD k noMsg ∧ Rl n (popS A f.toNat t.toNat i.toNat) (ls.eraseIdx k) cuts ∧ mF (ls.getD k noMsg) = f ∧ mT (ls.getD k noMsg) = t ∧ isL n f t := by
  have ⟨h0, hk⟩ := atR_some ha
  obtain ⟨a, rfl⟩ : ∃ a : Nat, i = a := ⟨i.toNat, by omega⟩
  have sp := atR_spec (f := f) (t := t) ls a
  rw [ha] at sp
  obtain ⟨m, h1, h2, h3, h4, h5⟩ := sp
  have hft := isFT_iff.1 h2
  have hL : isL n f t := by have := h.lok m (List.mem_of_getElem? h1); rw [hft.1, hft.2] at this; exact this
  obtain ⟨i, j, e1, e2, hi, hj, hij, e3, e4⟩ := isL_nat hL
  have hms := h.msgs i j hi hj hij
  have em : ls.getD k noMsg = m := by rw [List.getD_eq_getElem?_getD, h1]; rfl
  have hm3 : (A i j).2[a]? = some m := by rw [hms, ← e1, ← e2]; exact h3
  have hal := (List.getElem?_eq_some_iff.1 hm3).1
  have hT : hasT n A f t (a : Int) := ⟨hL, by omega, by rw [e3, e4]; omega⟩
  refine ⟨hT, ?_, ?_, by rw [em]; exact hft.1, by rw [em]; exact hft.2, hL⟩
  · unfold msgT
    rw [if_pos hT, e3, e4, List.getD_eq_getElem?_getD, Int.toNat_natCast, hm3, em]; rfl
  · rw [e3, e4, Int.toNat_natCast]
    refine ⟨fun i' j' hi' hj' hij' => ?_, fun i' j' hi' hj' hij' => ?_, ?_, fun x hx => h.lok x (List.mem_of_mem_eraseIdx hx), h.cok⟩
    · unfold popS
      by_cases c : i' = i ∧ j' = j
      · obtain ⟨rfl, rfl⟩ := c
        simp only [upd2, and_self, if_true]
        rw [hms, ← e1, ← e2, h4]
      · rw [upd2_ne _ _ c, h.msgs i' j' hi' hj' hij']
        refine (h5 _ ?_).symm
        have q : ¬ isFT (i' : Int) (j' : Int) m = true := fun q => c (by have := isFT_iff.1 q; omega)
        simpa using q
    · unfold popS
      by_cases c : i' = i ∧ j' = j
      · obtain ⟨rfl, rfl⟩ := c
        simp [upd2, h.offs i' j' hi hj hij]
      · rw [upd2_ne _ _ c, h.offs i' j' hi' hj' hij']
    · have tu := tot_upd (A := A) (n := n) hi hj ((A i j).1, (A i j).2.eraseIdx a)
      have ht := h.tot
      have l1 := List.length_eraseIdx_of_lt hal
      have l2 := List.length_eraseIdx_of_lt hk
      unfold popS
      simp only at tu ⊢
      omega

theorem Rl.zero (n : Nat) : Rl n (fun _ _ => (false, [])) [] [] := ⟨fun _ _ _ _ _ => rfl, fun _ _ _ _ _ => rfl, tot_zero n, fun m hm => by simp at hm, fun c hc => by simp at hc⟩

theorem Rl.okS (h : Rl n A ls cuts) (hf : ls.length ≤ 900) (f t : Int) : Am.okS n A f t ↔ isL n f t ∧ offR cuts f t = false := by
  unfold Am.okS
  have h1 := h.len f t
  have h2 := h.off f t
  have h3 := lenR_le ls f t
  constructor
  · rintro ⟨a, b, _⟩
    rw [if_pos a] at h2
    exact ⟨a, by rw [← h2, b]⟩
  · rintro ⟨a, b⟩
    rw [if_pos a] at h1 h2
    exact ⟨a, by rw [h2, b], by omega⟩
end
end Go.Proofs.Ytadddaafajennaa.Am
