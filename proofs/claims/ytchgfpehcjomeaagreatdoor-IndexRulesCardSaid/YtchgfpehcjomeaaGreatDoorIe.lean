/- The index in the store: its two maps, the maps of the words. -/
import Derived.Test.YtchgfpehcjomeaaGreatDoorId
set_option linter.unusedSimpArgs false
set_option linter.unusedVariables false
set_option maxRecDepth 10000
set_option maxHeartbeats 2000000
namespace Go.Proofs.YtchgfpehcjomeaaGreatDoor.Am
open Go Go.Proofs

/-! ### maps whose keys are strings: what they hold -/
abbrev Es := List (W × V × Nat)
structure MapOk (es : Es) (clk : Nat) : Prop where
  keys : (es.map (·.1)).Nodup
  stamps : (es.map (·.2.2)).Nodup
  lt : ∀ e ∈ es, e.2.2 < clk

theorem hasM_find (k : W) : ∀ es : Es, hasM k es = (findM k es).isSome
  | [] => rfl
  | (k', x, n) :: r => by
    have ih := hasM_find k r
    simp only [hasM, List.any_cons, findM] at ih ⊢
    by_cases h : k = k'
    · subst h; simp
    · have h2 : (k' == k) = false := by simpa using fun e => h e.symm
      rw [h2, if_neg h, Bool.false_or]; exact ih
theorem hasM_mem (k : W) (es : Es) : hasM k es = true ↔ k ∈ es.map (·.1) := by
  simp only [hasM, List.any_eq_true, List.mem_map, beq_iff_eq]
theorem findM_mem {k : W} {x : V} : ∀ {es : Es}, findM k es = some x → ∃ n, (k, x, n) ∈ es
  | [], h => by cases h
  | (k', y, n) :: r, h => by
    simp only [findM] at h
    split at h
    · rename_i e; subst e; cases h; exact ⟨n, by simp⟩
    · obtain ⟨m, hm⟩ := findM_mem h; exact ⟨m, by simp [hm]⟩
theorem findM_put (k k' : W) (x : V) (clk : Nat) : ∀ es : Es, findM k' (putM k x clk es) = if k' = k then some x else findM k' es
  | [] => by simp only [putM, findM]
  | (k0, y, n) :: r => by
    have ih := findM_put k k' x clk r
    simp only [putM]
    split
    · rename_i e; subst e
      simp only [findM]
      split <;> rfl
    · rename_i e
      simp only [findM, ih]
      by_cases h1 : k' = k0
      · subst h1; rw [if_pos rfl, if_neg (fun e' => e e'.symm), if_pos rfl]
      · rw [if_neg h1, if_neg h1]
theorem findM_none {k : W} {es : Es} (h : k ∉ es.map (·.1)) : findM k es = none := by
  cases hf : findM k es with
  | none => rfl
  | some x => obtain ⟨n, hn⟩ := findM_mem hf; exact (h (List.mem_map.2 ⟨_, hn, rfl⟩)).elim
theorem findM_del (k k' : W) : ∀ es : Es, (es.map (·.1)).Nodup → findM k' (delM k es) = if k' = k then none else findM k' es
  | [], _ => by simp [delM, findM]
  | (k0, y, n) :: r, h => by
    rw [List.map_cons, List.nodup_cons] at h
    have ih := findM_del k k' r h.2
    simp only [delM]
    split
    · rename_i e; subst e
      by_cases h1 : k' = k
      · subst h1; rw [if_pos rfl]; exact findM_none h.1
      · rw [if_neg h1]; simp only [findM, if_neg h1]
    · rename_i e
      simp only [findM, ih]
      by_cases h1 : k' = k0
      · subst h1; rw [if_pos rfl, if_neg (fun e' => e e'.symm), if_pos rfl]
      · rw [if_neg h1, if_neg h1]

theorem putM_sub (k : W) (x : V) (clk : Nat) : ∀ (es : Es) e, e ∈ putM k x clk es → e ∈ es ∨ (e.1 = k ∧ e.2.1 = x ∧ ((e.2.2 = clk ∧ hasM k es = false) ∨ ∃ y, (k, y, e.2.2) ∈ es))
  | [], e, h => by simp only [putM, List.mem_singleton] at h; subst h; exact .inr ⟨rfl, rfl, .inl ⟨rfl, rfl⟩⟩
  | (k0, y, n) :: r, e, h => by
    simp only [putM] at h
    split at h
    · rename_i e0; subst e0
      rcases List.mem_cons.1 h with rfl | h
      · exact .inr ⟨rfl, rfl, .inr ⟨y, by simp⟩⟩
      · exact .inl (by simp [h])
    · rename_i e0
      rcases List.mem_cons.1 h with rfl | h
      · exact .inl (by simp)
      · rcases putM_sub k x clk r e h with g | ⟨g1, g2, g3⟩
        · exact .inl (by simp [g])
        · refine .inr ⟨g1, g2, ?_⟩
          rcases g3 with ⟨g3, g4⟩ | ⟨y', g3⟩
          · refine .inl ⟨g3, ?_⟩
            have : (k0 == k) = false := by simpa using fun e => e0 e.symm
            simp only [hasM, List.any_cons, this, Bool.false_or]; exact g4
          · exact .inr ⟨y', by simp [g3]⟩
theorem putM_keys (k : W) (x : V) (clk : Nat) : ∀ es : Es, (putM k x clk es).map (·.1) = if hasM k es then es.map (·.1) else es.map (·.1) ++ [k]
  | [] => rfl
  | (k0, y, n) :: r => by
    have ih := putM_keys k x clk r
    simp only [putM]
    split
    · rename_i e; subst e
      have : hasM k ((k, y, n) :: r) = true := by simp [hasM]
      rw [this]; rfl
    · rename_i e
      have h2 : (k0 == k) = false := by simpa using fun e' => e e'.symm
      have : hasM k ((k0, y, n) :: r) = hasM k r := by simp only [hasM, List.any_cons, h2, Bool.false_or]
      rw [this, List.map_cons, ih]
      split <;> rfl
theorem putM_stamps (k : W) (x : V) (clk : Nat) : ∀ es : Es, (putM k x clk es).map (·.2.2) = if hasM k es then es.map (·.2.2) else es.map (·.2.2) ++ [clk]
  | [] => rfl
  | (k0, y, n) :: r => by
    have ih := putM_stamps k x clk r
    simp only [putM]
    split
    · rename_i e; subst e
      have : hasM k ((k, y, n) :: r) = true := by simp [hasM]
      rw [this]; rfl
    · rename_i e
      have h2 : (k0 == k) = false := by simpa using fun e' => e e'.symm
      have : hasM k ((k0, y, n) :: r) = hasM k r := by simp only [hasM, List.any_cons, h2, Bool.false_or]
      rw [this, List.map_cons, ih]
      split <;> rfl
theorem delM_sublist (k : W) : ∀ es : Es, (delM k es).Sublist es
  | [] => .slnil
  | (k0, y, n) :: r => by
    simp only [delM]
    split
    · exact List.sublist_cons_self _ _
    · exact (delM_sublist k r).cons_cons _

theorem MapOk.put {es : Es} {clk : Nat} (h : MapOk es clk) (k : W) (x : V) : MapOk (putM k x clk es) (if hasM k es then clk else clk + 1) := by
  refine ⟨?_, ?_, ?_⟩
  · rw [putM_keys]
    split
    · exact h.keys
    · rename_i g
      refine List.nodup_append.2 ⟨h.keys, by simp, fun a ha b hb => ?_⟩
      simp at hb; subst hb
      rintro rfl
      exact g ((hasM_mem _ _).2 ha)
  · rw [putM_stamps]
    split
    · exact h.stamps
    · refine List.nodup_append.2 ⟨h.stamps, by simp, fun a ha b hb => ?_⟩
      simp at hb; subst hb
      obtain ⟨e, he, rfl⟩ := List.mem_map.1 ha
      have := h.lt e he; omega
  · intro e he
    rcases putM_sub k x clk es e he with g | ⟨_, _, g⟩
    · have := h.lt e g; split <;> omega
    · rcases g with ⟨g1, g2⟩ | ⟨y, g⟩
      · rw [g1, g2]; simp
      · have := h.lt _ g; simp only at this; split <;> omega
theorem MapOk.del {es : Es} {clk : Nat} (h : MapOk es clk) (k : W) : MapOk (delM k es) clk :=
  ⟨h.keys.sublist ((delM_sublist k es).map _), h.stamps.sublist ((delM_sublist k es).map _), fun e he => h.lt e ((delM_sublist k es).subset he)⟩
theorem putM_len (k : W) (x : V) (clk : Nat) (es : Es) : (putM k x clk es).length ≤ es.length + 1 := by
  have := congrArg List.length (putM_keys k x clk es)
  split at this <;> simp at this <;> omega

/-! ### a list of strings, by value or of the call's own -/
inductive LstAt (σ : List Ob) : V → List W → Prop where
  | val (l : List W) : LstAt σ (.d (.lst 1 (l.map .str))) l
  | nil : LstAt σ (.d .nils) []
  | own {q off : Nat} {mk : Bool} {l pre post : List W} : σ[q]? = some (.arr 1 mk ((pre ++ (l ++ post)).map .str)) → off = pre.length → LstAt σ (.sl q off l.length) l

theorem LstAt.own0 {σ : List Ob} {q : Nat} {mk : Bool} {l : List W} (h : σ[q]? = some (.arr 1 mk (l.map .str))) : LstAt σ (.sl q 0 l.length) l := .own (pre := []) (post := []) (by simpa using h) rfl
theorem LstAt.keep {σ σ' : List Ob} {v : V} {l : List W} (h : LstAt σ v l) {S : Nat → Prop} (hk : Keeps S σ σ') (hs : ∀ q o n, v = .sl q o n → ¬ S q) : LstAt σ' v l := by
  cases h with
  | val l => exact .val l
  | nil => exact .nil
  | own h e => exact .own (hk.get h (hs _ _ _ rfl)) e
theorem LstAt.len {σ : List Ob} {v : V} {l : List W} (h : LstAt σ v l) : builtinF Tryz.prog .len [35] σ [v] = some (.d (.int .i64 (l.length : Int))) := by
  cases h with
  | val l => simp only [len_lst, T35, List.length_map]; rfl
  | nil => simp only [len_nils, T35]; rfl
  | own h e => simp only [len_sl, T35, alive_of h (by simp)]; rfl
theorem ld_ipt {P : Program} {t : TypeId} {σ : List Ob} {cs r : List D} {d : D} (h : cs = d :: r) (h1 : aggT P t = false) (h2 : okT P t = true) : loadF P t σ (.ipt cs) = some (.d d) := by
  subst h
  simp only [loadF, takeD, h1, h2, Bool.false_eq_true, if_false, if_true]
theorem LstAt.get {σ : List Ob} {v : V} {l : List W} (h : LstAt σ v l) {k : Nat} {s : W} (hs : l[k]? = some s) : ∃ a, indexAddrF Tryz.prog 35 σ v (.d (.int .i64 (k : Int))) = some a ∧ loadF Tryz.prog 9 σ a = some (.d (.str s)) := by
  cases h with
  | val l => exact ⟨_, index_lst1 (P := Tryz.prog) (t := 35) (e := 9) (by simp only [T35]) (by simp only [T9]) (by rw [List.getElem?_map, hs]; rfl) rfl, ld_ipt rfl (by simp only [T9]) (by simp only [T9])⟩
  | nil => simp at hs
  | own h e =>
    subst e
    have hk := (List.getElem?_eq_some_iff.1 hs).1
    refine ⟨_, index_arr (P := Tryz.prog) (t := 35) (e := 9) h (by simp only [T35]) (by simp only [T9]) (by omega) hk, ?_⟩
    simp only [loadF, h, List.getElem?_map]
    rw [List.getElem?_append_right (by omega), List.getElem?_append_left (by omega)]
    simp only [Nat.add_sub_cancel_left, hs, T9]
    rfl
theorem LstAt.tail {σ : List Ob} {v : V} {l : List W} (h : LstAt σ v l) (hl : l ≠ []) : ∃ v', sliceF Tryz.prog 35 σ v (some (.d (.int .i64 1))) none none = some v' ∧ LstAt σ v' (l.drop 1) := by
  have hp := List.length_pos_iff.2 hl
  cases h with
  | val l =>
    refine ⟨_, slcl_lo (P := Tryz.prog) (t := 35) (e := 9) (k1 := .i64) (a := 1) (by simp only [T35]) (by simp only [T9]) (by omega) (by simp; omega), ?_⟩
    rw [← List.map_drop]; exact .val _
  | nil => exact (hl rfl).elim
  | @own q off mk l pre post h e =>
    subst e
    refine ⟨_, slc_lo (P := Tryz.prog) (t := 35) (e := 9) (k1 := .i64) (a := 1) h (by simp only [T35]) (by simp only [T9]) (by omega) (by omega), ?_⟩
    have e1 : pre ++ (l ++ post) = (pre ++ l.take 1) ++ (l.drop 1 ++ post) := by
      rw [List.append_assoc, ← List.append_assoc (l.take 1), List.take_append_drop]
    rw [e1] at h
    rw [show l.length - 1 = (l.drop 1).length by simp]
    exact .own h (by simp; omega)
end Go.Proofs.YtchgfpehcjomeaaGreatDoor.Am
