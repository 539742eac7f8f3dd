/- The index: walk of Find. -/
import Derived.Test.YtchgfpehcjomeaaGreatDoorIh
set_option linter.unusedSimpArgs false
set_option linter.unusedVariables false
set_option maxRecDepth 10000
set_option maxHeartbeats 2000000
namespace Go.Proofs.YtchgfpehcjomeaaGreatDoor.Am
open Go Go.Proofs

section
variable {P : Program} {n : Nat} {l : List CStp} {kk : List Fr} {s : List V} {σ : List Ob} {K : Ex → List V → List Ob → Prop}
theorem F_range (t : TypeId) (x : Operand) (d : Option Tmp) (chk : List (COp × Bool)) : Rn P n (.ef ⟨d, .range t x, none⟩ chk :: l) kk s σ K = BindE P n (rangeF P t σ (get s x)) d chk l kk s K := step_range (P := P) (s := s) (k := fun v σ' => chkC P chk (putV s d v) σ' ∧ Rn P n l kk (putV s d v) σ' K) t x
end

/-! ### a list that grows -/
def ArrK (σ : List Ob) (q : Option Nat) (ds : List D) : Prop := match q with | none => ds = [] | some q => ∃ mk, σ[q]? = some (.arr 1 mk ds)
theorem ArrK.keep {σ σ' : List Ob} {q : Option Nat} {ds : List D} (h : ArrK σ q ds) {S : Nat → Prop} (hk : Keeps S σ σ') (hs : ∀ p, q = some p → ¬ S p) : ArrK σ' q ds := by
  cases q with
  | none => exact h
  | some q => obtain ⟨mk, h⟩ := h; exact ⟨mk, hk.get h (hs q rfl)⟩
theorem ArrK.lst {σ : List Ob} {q : Option Nat} {l : List W} (h : ArrK σ q (l.map .str)) : LstAt σ (cellQ q l.length) l := by
  cases q with
  | none => simp only [ArrK, List.map_eq_nil_iff] at h; subst h; exact .nil
  | some q => obtain ⟨mk, h⟩ := h; exact .own0 h

theorem app_one {σ : List Ob} {q : Option Nat} {ds : List D} {d : D} (h : ArrK σ q ds) (hl : ds.length ≤ 1048576) {t e : TypeId} {b : Nat} (he : elemOfSlice Tryz.prog t = some e) (hk : elemOk Tryz.prog e = true) (hz : szOf Tryz.prog e = 1) (ht : isSliceT Tryz.prog t = true) (hbt : bytesT Tryz.prog e = b) (hb : b ≤ 64) :
    ∃ q' σ', appE Tryz.prog t t (σ ++ [.arr 1 false [d]]) (cellQ q ds.length) (.sl σ.length 0 1) = some (.sl q' 0 (ds.length + 1), σ') ∧ ArrK σ' (some q') (ds ++ [d]) ∧ σ.length ≤ q' ∧ Keeps (fun o => q = some o) σ σ' := by
  have g1 : (σ ++ [Ob.arr 1 false [d]])[σ.length]? = some (.arr 1 false [d]) := by simp
  have hs : srcD Tryz.prog e (σ ++ [Ob.arr 1 false [d]]) t (.sl σ.length 0 1) = some [d] := src_sl (P := Tryz.prog) (tx := t) (e := e) (off := 0) (len := 1) g1 ht hz (by simp)
  have hbb : (ds.length + 1) * b ≤ 70368744177664 := by
    have : (ds.length + 1) * b ≤ 1048577 * 64 := Nat.mul_le_mul (by omega) hb
    omega
  cases q with
  | none =>
    simp only [ArrK] at h; subst h
    have ap := app_nil (P := Tryz.prog) (t := t) (e := e) he hk hs (b := b) hbt (by simpa using hbb) (by omega)
    rw [hz] at ap
    refine ⟨σ.length + 1, σ ++ [Ob.arr 1 false [d]] ++ [Ob.arr 1 false [d]], by rw [List.length_nil, cellQ, ap]; simp, ⟨false, ?_⟩, by omega, ?_⟩
    · rw [List.getElem?_append_right (by simp)]; simp
    · rw [List.append_assoc]; exact Keeps.app _ _ _
  | some q =>
    obtain ⟨mk, ho⟩ := h
    have ho' : (σ ++ [Ob.arr 1 false [d]])[q]? = some (.arr 1 mk ds) := app_get ho _
    have hql := lt_of_get ho
    have ap := app_new (P := Tryz.prog) (t := t) (e := e) (tx := t) (off := 0) (len := ds.length) (src := .sl σ.length 0 1) (ds := [d]) ho' he hk hz hs (by simp) (by simp) (b := b) hbt (by simpa using hbb) (by omega)
    rw [List.drop_zero, List.take_length] at ap
    refine ⟨_, _, by rw [cellQ, ap]; rfl, ⟨mk, ?_⟩, by simp, ?_⟩
    · rw [List.getElem?_append_right (by simp)]; simp
    · exact ((Keeps.app (fun o => some q = some o) σ _).trans (Keeps.set (S := fun o => some q = some o) _ _ rfl) (fun _ _ h => h)).trans (Keeps.app _ _ _) (fun _ _ h => h)

theorem build23 {σ : List Ob} {s : List V} {x : Operand} {w : W} (h : get s x = .d (.str w)) : buildSliceF Tryz.prog 35 1 σ s [(0, x)] = some (.sl σ.length 0 1, σ ++ [.arr 1 false [.str w]]) := by
  simp only [buildSliceF, T35, T9, inOrder, toDs, h, toD, flatOk, D.csz, D.cells, List.all_cons, List.all_nil, one1, beq_self_eq_true, if_true, Option.map_some, List.length_cons, List.length_nil]
  rfl

theorem nodup_le {α : Type} [DecidableEq α] : ∀ {l m : List α}, l.Nodup → (∀ x ∈ l, x ∈ m) → l.length ≤ m.length
  | [], _, _, _ => Nat.zero_le _
  | x :: l, m, h, hs => by
    rw [List.nodup_cons] at h
    have hx := hs x (by simp)
    have ih := nodup_le (m := m.erase x) h.2 fun y hy => (List.mem_erase_of_ne (by rintro rfl; exact h.1 hy)).2 (hs y (by simp [hy]))
    rw [List.length_erase_of_mem hx] at ih
    have := List.length_pos_of_mem hx
    simp only [List.length_cons]; omega

/-! ### what is found -/
/-- The ids of the texts with all words, ascending. -/
def FoundOk (A : W → List W) (ws l : List W) : Prop := l.Pairwise (fun a b => a < b) ∧ ∀ id, id ∈ l ↔ ws ≠ [] ∧ ∀ w ∈ ws, w ∈ A id

theorem sorted_lt {l : List W} (h : l.Nodup) : (l.mergeSort leB).Pairwise (fun a b => a < b) := by
  have tr : ∀ a b c : W, leB a b = true → leB b c = true → leB a c = true := fun a b c h1 h2 => by simp only [leB, decide_eq_true_eq] at *; exact List.le_trans h1 h2
  have to : ∀ a b : W, (leB a b || leB b a) = true := fun a b => by simp only [leB, Bool.or_eq_true, decide_eq_true_eq]; exact List.le_total a b
  have h1 := List.pairwise_mergeSort tr to l
  have h2 : (l.mergeSort leB).Nodup := (List.mergeSort_perm l _).nodup_iff.2 h
  refine h1.imp₂ (fun a b g1 g2 => ?_) h2
  simp only [leB, decide_eq_true_eq] at g1
  rcases List.le_iff_lt_or_eq.1 g1 with g | g
  · exact g
  · exact (g2 g).elim

theorem IxP.look {σ : List Ob} {x t i : Nat} {S : Nat → Prop} {A : W → List W} {L : List W} {tes ies : Es} {tc ic : Nat} (H : IxP σ x t i S A (pA A) L tes tc ies ic) (w id : W) : ∃ u, lookupF Tryz.prog 45 σ (.mp i) (.d (.str w)) false = some u ∧ lookupF Tryz.prog 73 σ u (.d (.str id)) false = some (.d (.bool (decide (w ∈ A id)))) := by
  cases hf : findM w ies with
  | some u =>
    obtain ⟨o, rfl, so, ox, ot, oi, es, clk, ho, hok, hvs, hp⟩ := H.yes w u hf
    refine ⟨_, map_lookup (kt := 9) (et := 73) (by simp only [T45]) (by simp only [T9]) H.iget w hf, ?_⟩
    have hpi := hp id
    rw [hasM_find] at hpi
    cases hg : findM id es with
    | some u =>
      obtain ⟨n, hn⟩ := findM_mem hg
      have := hvs _ hn
      simp only at this
      subst this
      have hm : w ∈ A id := hpi.1 (by rw [hg]; rfl)
      rw [map_lookup (P := Tryz.prog) (t := 73) (kt := 9) (et := 4) (by simp only [T73]) (by simp only [T9]) ho id hg]
      simp [hm]
    | none =>
      have hm : w ∉ A id := fun h => by have := hpi.2 h; rw [hg] at this; cases this
      rw [map_lookup_no (P := Tryz.prog) (t := 73) (kt := 9) (et := 4) (z := .d (.bool false)) (by simp only [T73]) (by simp only [T9]) ho id (by kernel_rfl) hg]
      simp [hm]
  | none =>
    refine ⟨_, map_lookup_no (kt := 9) (et := 73) (z := .d .nilm) (by simp only [T45]) (by simp only [T9]) H.iget w (by kernel_rfl) hf, ?_⟩
    have hm : w ∉ A id := H.no w hf id
    rw [map_lookup_nil (P := Tryz.prog) (t := 73) (kt := 9) (et := 4) (z := .d (.bool false)) (by simp only [T73]) (by simp only [T9]) id (by kernel_rfl)]
    simp [hm]
end Go.Proofs.YtchgfpehcjomeaaGreatDoor.Am
