/- The reference over texts: Remove, Set, Find. -/
import Derived.Test.YtjidelngljpbdaaIn
import Derived.Test.YtjidelngljpbdaaIp
set_option linter.unusedSimpArgs false
set_option linter.unusedVariables false
set_option maxRecDepth 10000
set_option maxHeartbeats 2000000
namespace Go.Proofs.Ytjidelngljpbdaa.Am
open Go Go.Proofs

/-- A text and its id. -/
abbrev TxI := W × W
def txD (e : TxI) : D := .agg [.str e.1, .str e.2]
/-- A list of texts, by value or of the call's own. -/
inductive TxAt (σ : List Ob) : V → List TxI → Prop where
  | nil : TxAt σ (.d .nils) []
  | own {q : Nat} {mk : Bool} {l : List TxI} : σ[q]? = some (.arr 2 mk (l.map txD)) → TxAt σ (.sl q 0 l.length) l
theorem TxAt.keep {σ σ' : List Ob} {v : V} {l : List TxI} (h : TxAt σ v l) {S : Nat → Prop} (hk : Keeps S σ σ') (hs : ∀ q o n, v = .sl q o n → ¬ S q) : TxAt σ' v l := by
  cases h with
  | nil => exact .nil
  | own h => exact .own (hk.get h (hs _ _ _ rfl))
theorem TxAt.len {σ : List Ob} {v : V} {l : List TxI} (h : TxAt σ v l) : builtinF Try.prog .len [33] σ [v] = some (.d (.int .i64 (l.length : Int))) := by
  cases h with
  | nil => simp only [len_nils, T33]; rfl
  | own h => simp only [len_sl, T33, alive_of h (by simp)]; rfl
/-- An element: its address, its fields, itself. -/
theorem TxAt.get {σ : List Ob} {v : V} {l : List TxI} (h : TxAt σ v l) {k : Nat} {e : TxI} (he : l[k]? = some e) : ∃ q, indexAddrF Try.prog 33 σ v (.d (.int .i64 (k : Int))) = some (.ptr q k 0) ∧ alive σ q = true ∧ loadF Try.prog 9 σ (.ptr q k 0) = some (.d (.str e.1)) ∧ loadF Try.prog 9 σ (.ptr q k 1) = some (.d (.str e.2)) ∧ loadF Try.prog 62 σ (.ptr q k 0) = some (.d (txD e)) := by
  cases h with
  | nil => simp at he
  | @own q mk l h =>
    have hk := (List.getElem?_eq_some_iff.1 he).1
    have h2 : (l.map txD)[k]? = some (.agg [.str e.1, .str e.2]) := by rw [List.getElem?_map, he]; rfl
    refine ⟨q, ?_, alive_of h (by simp), load_arr h h2 rfl rfl (by simp only [T9]) (by simp only [T9]), load_arr h h2 rfl rfl (by simp only [T9]) (by simp only [T9]), ?_⟩
    · rw [index_arr (P := Try.prog) (t := 33) (e := 62) h (by simp only [T33]) (by simp only [T62]) (by omega) hk, Nat.zero_add]
    · rw [load_elem h h2 rfl (by simp only [T62]) (by simp only [T62]) (by simp only [T62]; omega)]; rfl

def ArrT (σ : List Ob) (q : Option Nat) (l : List TxI) : Prop := match q with | none => l = [] | some q => ∃ mk, σ[q]? = some (.arr 2 mk (l.map txD))
theorem ArrT.txs {σ : List Ob} {q : Option Nat} {l : List TxI} (h : ArrT σ q l) : TxAt σ (cellQ q l.length) l := by
  cases q with
  | none => simp only [ArrT] at h; subst h; exact .nil
  | some q => obtain ⟨mk, h⟩ := h; exact .own h
theorem TxAt.arr {σ : List Ob} {v : V} {l : List TxI} (h : TxAt σ v l) : ∃ q, v = cellQ q l.length ∧ ArrT σ q l := by
  cases h with
  | nil => exact ⟨none, rfl, rfl⟩
  | @own q mk l h => exact ⟨some q, rfl, mk, h⟩

theorem app_tx {σ : List Ob} {q : Option Nat} {l : List TxI} {e : TxI} (h : ArrT σ q l) (hl : l.length ≤ 1048576) :
    ∃ q' σ', appE Try.prog 33 33 (σ ++ [.arr 2 false [txD e]]) (cellQ q l.length) (.sl σ.length 0 1) = some (.sl q' 0 (l.length + 1), σ') ∧ ArrT σ' (some q') (l ++ [e]) ∧ σ.length ≤ q' ∧ Keeps (fun o => q = some o) σ σ' := by
  have he : elemOfSlice Try.prog 33 = some 62 := by simp only [T33]
  have hk : elemOk Try.prog 62 = true := by simp only [T62]
  have hz : szOf Try.prog 62 = 2 := by simp only [T62]
  have ht : isSliceT Try.prog 33 = true := by simp only [T33]
  have hbt : bytesT Try.prog 62 = 32 := by simp only [T62]
  have g1 : (σ ++ [Ob.arr 2 false [txD e]])[σ.length]? = some (.arr 2 false [txD e]) := by simp
  have hs : srcD Try.prog 62 (σ ++ [Ob.arr 2 false [txD e]]) 33 (.sl σ.length 0 1) = some [txD e] := src_sl (P := Try.prog) (tx := 33) (e := 62) (off := 0) (len := 1) g1 ht hz (by simp)
  cases q with
  | none =>
    simp only [ArrT] at h; subst h
    have ap := app_nil (P := Try.prog) (t := 33) (e := 62) he hk hs (b := 32) hbt (by simp) (by omega)
    rw [hz] at ap
    refine ⟨σ.length + 1, σ ++ [Ob.arr 2 false [txD e]] ++ [Ob.arr 2 false [txD e]], by rw [List.length_nil, cellQ, ap]; simp, ⟨false, ?_⟩, by omega, ?_⟩
    · rw [List.getElem?_append_right (by simp)]; simp
    · rw [List.append_assoc]; exact Keeps.app _ _ _
  | some q =>
    obtain ⟨mk, ho⟩ := h
    have ho' : (σ ++ [Ob.arr 2 false [txD e]])[q]? = some (.arr 2 mk (l.map txD)) := app_get ho _
    have hql := lt_of_get ho
    have ap := app_new (P := Try.prog) (t := 33) (e := 62) (tx := 33) (off := 0) (len := l.length) (src := .sl σ.length 0 1) (ds := [txD e]) ho' he hk hz hs (by simp) (by simp) (b := 32) hbt (by simp; omega) (by omega)
    rw [List.drop_zero, List.take_of_length_le (by simp)] at ap
    refine ⟨_, _, by rw [cellQ, ap]; rfl, ⟨mk, ?_⟩, by simp, ?_⟩
    · rw [List.getElem?_append_right (by simp), List.map_append]; simp
    · exact ((Keeps.app (fun o => some q = some o) σ _).trans (Keeps.set (S := fun o => some q = some o) _ _ rfl) (fun _ _ h => h)).trans (Keeps.app _ _ _) (fun _ _ h => h)

theorem build33 {σ : List Ob} {s : List V} {x : Operand} {e : TxI} (h : get s x = .d (txD e) ∨ get s x = .agg [.d (.str e.1), .d (.str e.2)]) : buildSliceF Try.prog 33 1 σ s [(0, x)] = some (.sl σ.length 0 1, σ ++ [.arr 2 false [txD e]]) := by
  rcases h with h | h
  · simp only [buildSliceF, T33, T62, inOrder, toDs, h, toD, txD, flatOk, D.csz, D.cells, List.all_cons, List.all_nil, one1, beq_self_eq_true, if_true, Option.map_some, List.length_cons, List.length_nil]
    rfl
  · have e1 : toD σ (.agg [.d (.str e.1), .d (.str e.2)]) = some (txD e) := rfl
    simp only [buildSliceF, T33, T62, inOrder, toDs, h, e1, txD, flatOk, D.csz, D.cells, List.all_cons, List.all_nil, one1, beq_self_eq_true, if_true, Option.map_some, List.length_cons, List.length_nil]
    rfl
end Go.Proofs.Ytjidelngljpbdaa.Am
