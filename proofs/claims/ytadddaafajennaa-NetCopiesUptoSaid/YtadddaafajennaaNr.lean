/- Arguments that hold messages, read; the counted sums of the apartness law. -/
import Derived.Test.YtadddaafajennaaNq
import Derived.Test.YtadddaafajennaaAmC
set_option linter.unusedSimpArgs false
set_option linter.unusedVariables false
set_option maxRecDepth 10000
namespace Go.Proofs.Ytadddaafajennaa.Am
open Go Go.Proofs

def shI : Option Sh → Bool
  | some (.int .i64) => true
  | _ => false
theorem shI_eq {x : Option Sh} (h : shI x = true) : x = some (.int .i64) := by
  unfold shI at h
  split at h
  · rfl
  · cases h
def shL (n : Nat) : Option Sh → Bool
  | some (.lst m _ _) => m == n
  | _ => false
theorem shL_eq {n : Nat} {x : Option Sh} (h : shL n x = true) : ∃ ag l, x = some (.lst n ag l) := by
  unfold shL at h
  split at h
  · simp only [beq_iff_eq] at h; subst h; exact ⟨_, _, rfl⟩
  · cases h
def shEnt (l : List Sh) : Bool := l.length == 50 && (shL 1 l[11]? && (shL 5 l[17]? && shL 1 l[44]?))
def shEnts : Option Sh → Bool
  | some (.lst 50 true l) => shEnt l
  | _ => false
theorem shEnts_eq {x : Option Sh} (h : shEnts x = true) : ∃ l, x = some (.lst 50 true l) ∧ shEnt l = true := by
  unfold shEnts at h
  split at h
  · exact ⟨_, rfl, h⟩
  · cases h
def shMsg (l : List Sh) : Bool := l.length == 34 && (shI l[1]? && (shI l[2]? && (shEnts l[10]? && shL 1 l[33]?)))
def shStep (l : List Sh) : Bool := l.length == 38 && (shI l[0]? && (shI l[1]? && (shI l[2]? && (shI l[3]? && shMsg (l.drop 4)))))

theorem Fits.drop {B : Nat} : ∀ {shs : List Sh} {ds : List D}, Fits B shs ds → ∀ n, Fits B (shs.drop n) (ds.drop n)
  | [], ds, h, n => by simp only [Fits] at h; subst h; simp [Fits]
  | s :: r, ds, h, 0 => by simpa using h
  | s :: r, ds, h, n + 1 => by
    simp only [Fits] at h
    obtain ⟨d, t, rfl, h1, h2⟩ := h
    simpa using Fits.drop h2 n

theorem fits_i {B : Nat} {l : List Sh} {ds : List D} (h : Fits B l ds) {k : Nat} (g : shI l[k]? = true) : ∃ n, ds[k]? = some (.int .i64 n) := by
  obtain ⟨d, h1, h2⟩ := h.get k (shI_eq g)
  obtain ⟨n, rfl, _⟩ := h2
  exact ⟨n, h1⟩
theorem fits_l {B : Nat} {l : List Sh} {ds : List D} (h : Fits B l ds) {k n : Nat} (g : shL n l[k]? = true) : ∃ es, ds[k]? = some (.lst n es) ∧ es.length ≤ B := by
  obtain ⟨ag, l', g⟩ := shL_eq g
  obtain ⟨d, h1, h2⟩ := h.get k g
  obtain ⟨es, rfl, h3, _⟩ := h2
  exact ⟨es, h1, h3⟩

theorem ent_fit {B : Nat} (hB : B ≤ 1048576) {l : List Sh} (h : shEnt l = true) {ds : List D} (g : Fits B l ds) : EntOk (.agg ds) := by
  simp only [shEnt, Bool.and_eq_true, beq_iff_eq] at h
  obtain ⟨h1, h2, h3, h4⟩ := h
  obtain ⟨a, a1, a2⟩ := fits_l g h2
  obtain ⟨b, b1, b2⟩ := fits_l g h3
  obtain ⟨c, c1, c2⟩ := fits_l g h4
  exact ⟨ds, a, b, c, rfl, by rw [g.length, h1], g.one1, a1, b1, c1, by omega, by omega, by omega⟩

theorem msg_fit {B : Nat} (hB : B ≤ 1048576) {l : List Sh} (h : shMsg l = true) {ds : List D} (g : Fits B l ds) : ∃ f t ents lk, MsgOk ds f t ents lk := by
  simp only [shMsg, Bool.and_eq_true, beq_iff_eq] at h
  obtain ⟨h1, h2, h3, h4, h5⟩ := h
  obtain ⟨f, a1⟩ := fits_i g h2
  obtain ⟨t, a2⟩ := fits_i g h3
  obtain ⟨le, e1, e2⟩ := shEnts_eq h4
  obtain ⟨d, b1, b2⟩ := g.get 10 e1
  obtain ⟨es, rfl, b3, b4⟩ := b2
  obtain ⟨lk, c1, c2⟩ := fits_l g h5
  refine ⟨f, t, es, lk, by rw [g.length, h1], g.one1, a1, a2, b1, fun e he => ?_, c1, by omega, by omega⟩
  obtain ⟨cs, rfl, h6⟩ := b4 e he
  exact ent_fit hB e2 h6

theorem step_fit {B : Nat} (hB : B ≤ 1048576) {l : List Sh} (h : shStep l = true) {ds : List D} (g : Fits B l ds) : ∃ d f t a m fm tm ents lk, StepOk ds d f t a m fm tm ents lk := by
  simp only [shStep, Bool.and_eq_true, beq_iff_eq] at h
  obtain ⟨h1, h2, h3, h4, h5, h6⟩ := h
  obtain ⟨d, a0⟩ := fits_i g h2
  obtain ⟨f, a1⟩ := fits_i g h3
  obtain ⟨t, a2⟩ := fits_i g h4
  obtain ⟨a, a3⟩ := fits_i g h5
  obtain ⟨fm, tm, ents, lk, hm⟩ := msg_fit hB h6 (g.drop 4)
  exact ⟨d, f, t, a, ds.drop 4, fm, tm, ents, lk, by rw [g.length, h1], g.one1, a0, a1, a2, a3, rfl, hm⟩

/-! ### the arguments -/
def shSteps : Option (List Sh) → Bool
  | some [.lst 38 true l] => shStep l
  | _ => false
theorem shSteps_eq {x : Option (List Sh)} (h : shSteps x = true) : ∃ l, x = some [.lst 38 true l] ∧ shStep l = true := by
  unfold shSteps at h
  split at h
  · exact ⟨_, rfl, h⟩
  · cases h
def shStep1 : Option (List Sh) → Bool
  | some l => shStep l
  | _ => false
theorem shStep1_eq {x : Option (List Sh)} (h : shStep1 x = true) : ∃ l, x = some l ∧ shStep l = true := by
  unfold shStep1 at h
  split at h
  · exact ⟨_, rfl, h⟩
  · cases h
theorem sh22 : shSteps (shapes Try.prog 12 22) = true := by kernel_rfl
theorem sh44 : shStep1 (shapes Try.prog 12 44) = true := by kernel_rfl
theorem ag22' : aggT Try.prog 22 = false := by kernel_rfl
theorem ag44' : aggT Try.prog 44 = true := by kernel_rfl

theorem arg_steps {B : Nat} (hB : B ≤ 1048576) {x : D} (h : ArgFit Try.prog B 22 x) : ∃ es, x = .lst 38 es ∧ es.length ≤ B ∧ ∀ e ∈ es, StepA e := by
  obtain ⟨shs, h1, h2⟩ := h
  obtain ⟨l, g1, g2⟩ := shSteps_eq sh22
  rw [g1] at h1; cases h1
  have ag := ag22'
  rw [ag] at h2
  obtain ⟨d, t, e, h3, h4⟩ := h2
  cases e
  obtain ⟨es, rfl, h4, h5⟩ := h3
  refine ⟨es, rfl, h4, fun e he => ?_⟩
  obtain ⟨cs, rfl, h6⟩ := h5 e he
  obtain ⟨d, f, t, a, m, fm, tm, ents, lk, ok⟩ := step_fit hB g2 h6
  exact ⟨cs, d, f, t, a, m, fm, tm, ents, lk, rfl, ok⟩

theorem arg_step {B : Nat} (hB : B ≤ 1048576) {x : D} (h : ArgFit Try.prog B 44 x) : StepA x := by
  obtain ⟨shs, h1, h2⟩ := h
  obtain ⟨l, g1, g2⟩ := shStep1_eq sh44
  rw [g1] at h1; cases h1
  have ag := ag44'
  rw [ag] at h2
  obtain ⟨cs, rfl, h6⟩ := h2
  obtain ⟨d, f, t, a, m, fm, tm, ents, lk, ok⟩ := step_fit hB g2 h6
  exact ⟨cs, d, f, t, a, m, fm, tm, ents, lk, rfl, ok⟩

/-! ### lengths and states of the 25 links -/
def lenK (A : Links) (k : Nat) : Nat := if k / 5 = k % 5 then 0 else (A (k / 5) (k % 5)).2.length
def offK (A : Links) (k : Nat) : Bool := if k / 5 = k % 5 then false else (A (k / 5) (k % 5)).1

/-- What a step may do: nothing, or something to its own link. -/
def OneL (n : Nat) (A A' : Links) (f t : Int) : Prop := A' = A ∨ ∃ (i j : Nat) (a : Bool × List D), f = (i : Int) ∧ t = (j : Int) ∧ i < n ∧ j < n ∧ i ≠ j ∧ A' = upd2 A i j a ∧ a.2.length ≤ (A i j).2.length + 1 ∧ (A i j).2.length ≤ a.2.length + 1

theorem isL_nat {n : Nat} {f t : Int} (h : isL n f t) : ∃ i j : Nat, f = i ∧ t = j ∧ i < n ∧ j < n ∧ i ≠ j ∧ f.toNat = i ∧ t.toNat = j := by
  obtain ⟨h1, h2, h3, h4, h5⟩ := h
  exact ⟨f.toNat, t.toNat, by omega, by omega, by omega, by omega, by omega, rfl, rfl⟩

theorem step_one (n : Nat) (A : Links) (d f t a : Int) (m : List D) (fm tm : Int) : OneL n A (stepN n A d f t a m fm tm) (if pickN d 8 < 3 then fm else f) (if pickN d 8 < 3 then tm else t) := by
  unfold stepN
  by_cases c : pickN d 8 < 3
  · simp only [c, if_true]
    split
    · rename_i h
      obtain ⟨i, j, e1, e2, hi, hj, hij, e3, e4⟩ := isL_nat h.1
      refine .inr ⟨i, j, _, e1, e2, hi, hj, hij, by rw [e3, e4]; rfl, by simp, by simp; omega⟩
    · exact .inl rfl
  · simp only [c, if_false]
    split
    · split
      · rename_i h
        obtain ⟨i, j, e1, e2, hi, hj, hij, e3, e4⟩ := isL_nat h.1
        refine .inr ⟨i, j, _, e1, e2, hi, hj, hij, by rw [e3, e4]; rfl, ?_, ?_⟩
        · have := List.length_eraseIdx (l := (A i j).2) (i := a.toNat); simp only; split at this <;> omega
        · have := List.length_eraseIdx (l := (A i j).2) (i := a.toNat); simp only; split at this <;> omega
      · exact .inl rfl
    · split
      · split
        · rename_i h
          obtain ⟨i, j, e1, e2, hi, hj, hij, e3, e4⟩ := isL_nat h.1.1
          refine .inr ⟨i, j, _, e1, e2, hi, hj, hij, by rw [e3, e4]; rfl, by simp, by simp; omega⟩
        · exact .inl rfl
      · split
        · rename_i h
          obtain ⟨i, j, e1, e2, hi, hj, hij, e3, e4⟩ := isL_nat h
          refine .inr ⟨i, j, _, e1, e2, hi, hj, hij, by rw [e3, e4], by simp, by simp⟩
        · exact .inl rfl

theorem OneL.other {A A' : Links} {f t : Int} (h : OneL 5 A A' f t) {k : Nat} (hk : ¬ (((k / 5 : Nat) : Int) = f ∧ ((k % 5 : Nat) : Int) = t)) : lenK A' k = lenK A k ∧ offK A' k = offK A k := by
  rcases h with rfl | ⟨i, j, a, rfl, rfl, hi, hj, hij, rfl, _⟩
  · exact ⟨rfl, rfl⟩
  · have : ¬ (k / 5 = i ∧ k % 5 = j) := fun ⟨e1, e2⟩ => hk ⟨by rw [e1], by rw [e2]⟩
    unfold lenK offK
    rw [upd2_ne _ _ this]
    exact ⟨rfl, rfl⟩

theorem sum25 (A : Links) : sumTo (fun k => (A (k / 5) (k % 5)).2.length) 25 = totLen A 5 := by
  simp only [totLen, rowLen, sumTo, Nat.reduceDiv, Nat.reduceMod]
  omega

/-- The sum of the differences. -/
theorem OneL.sums {A A' : Links} {f t : Int} (h : OneL 5 A A' f t) : totLen A' 5 + sumTo (lenK A) 25 = totLen A 5 + sumTo (lenK A') 25 ∧ sumTo (lenK A') 25 ≤ sumTo (lenK A) 25 + 1 ∧ sumTo (lenK A) 25 ≤ sumTo (lenK A') 25 + 1 := by
  rcases h with rfl | ⟨i, j, a, rfl, rfl, hi, hj, hij, rfl, h1, h2⟩
  · omega
  · have t1 := tot_upd (A := A) (n := 5) hi hj a
    have e : (i * 5 + j) / 5 = i ∧ (i * 5 + j) % 5 = j := by omega
    have t2 := sumTo_upd (f := lenK A) (g := lenK (upd2 A i j a)) (n := 25) (i := i * 5 + j) (by omega) fun k hk => by
      have : ¬ (k / 5 = i ∧ k % 5 = j) := by omega
      unfold lenK
      rw [upd2_ne _ _ this]
    have l1 : lenK A (i * 5 + j) = (A i j).2.length := by unfold lenK; rw [e.1, e.2, if_neg hij]
    have l2 : lenK (upd2 A i j a) (i * 5 + j) = a.2.length := by unfold lenK; rw [e.1, e.2, if_neg hij]; simp [upd2]
    omega

theorem isL_k {k : Nat} (hk : k < 25) : isL 5 ((k / 5 : Nat) : Int) ((k % 5 : Nat) : Int) ↔ k / 5 ≠ k % 5 := by
  unfold isL
  omega

theorem lenK_eq (A : Links) {k : Nat} (hk : k < 25) [Decidable (isL 5 ((k / 5 : Nat) : Int) ((k % 5 : Nat) : Int))] : (if isL 5 ((k / 5 : Nat) : Int) ((k % 5 : Nat) : Int) then (A ((k / 5 : Nat) : Int).toNat ((k % 5 : Nat) : Int).toNat).2.length else 0) = lenK A k := by
  unfold lenK
  have := isL_k hk
  by_cases c : k / 5 = k % 5
  · rw [if_pos c, if_neg (by rw [this]; simpa using c)]
  · rw [if_neg c, if_pos (by rw [this]; simpa using c), Int.toNat_natCast, Int.toNat_natCast]
theorem offK_eq (A : Links) {k : Nat} (hk : k < 25) [Decidable (isL 5 ((k / 5 : Nat) : Int) ((k % 5 : Nat) : Int))] : (if isL 5 ((k / 5 : Nat) : Int) ((k % 5 : Nat) : Int) then (A ((k / 5 : Nat) : Int).toNat ((k % 5 : Nat) : Int).toNat).1 else false) = offK A k := by
  unfold offK
  have := isL_k hk
  by_cases c : k / 5 = k % 5
  · rw [if_pos c, if_neg (by rw [this]; simpa using c)]
  · rw [if_neg c, if_pos (by rw [this]; simpa using c), Int.toNat_natCast, Int.toNat_natCast]

theorem size25 {σ : List Ob} {x : Nat} {A : Links} {L : Nat} {R : Nat → Nat} {Q : Nat → Nat → Option Nat} {role : Nat → Role} (h : NetAt σ x 5 A L R Q role) {k : Nat} (hk : k < 25) : callA Try.prog 24 [.ptr x 0 0, .d (.int .i64 (k / 5 : Nat)), .d (.int .i64 (k % 5 : Nat))] σ (fun r σ' => r = .d (.int .i64 (lenK A k : Nat)) ∧ σ' = σ) := by
  refine callA_mono (size24 h _ _) fun r σ' ⟨q1, q2⟩ => ⟨?_, q2⟩
  rw [q1, lenK_eq A hk]
theorem off25 {σ : List Ob} {x : Nat} {A : Links} {L : Nat} {R : Nat → Nat} {Q : Nat → Nat → Option Nat} {role : Nat → Role} (h : NetAt σ x 5 A L R Q role) {k : Nat} (hk : k < 25) : callA Try.prog 26 [.ptr x 0 0, .d (.int .i64 (k / 5 : Nat)), .d (.int .i64 (k % 5 : Nat))] σ (fun r σ' => r = .d (.bool (offK A k)) ∧ σ' = σ) := by
  refine callA_mono (off26 h _ _) fun r σ' ⟨q1, q2⟩ => ⟨?_, q2⟩
  rw [q1, offK_eq A hk]

theorem sumTo_le' {A : Links} (h : ∀ i j, i < 5 → j < 5 → (A i j).2.length ≤ 1024) : ∀ k, k ≤ 25 → sumTo (lenK A) k ≤ k * 1024 := fun k hk => sumTo_le k fun i hi => by
  unfold lenK
  split
  · omega
  · exact h _ _ (by omega) (by omega)
end Go.Proofs.Ytadddaafajennaa.Am
