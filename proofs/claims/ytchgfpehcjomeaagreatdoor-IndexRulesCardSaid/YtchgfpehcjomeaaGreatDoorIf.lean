/- The index: New, Remove, Set. -/
import Derived.Test.YtchgfpehcjomeaaGreatDoorIe
set_option linter.unusedSimpArgs false
set_option linter.unusedVariables false
set_option maxRecDepth 10000
set_option maxHeartbeats 2000000
namespace Go.Proofs.YtchgfpehcjomeaaGreatDoor.Am
open Go Go.Proofs

def IdsAt (σ : List Ob) (o : Nat) (p : W → Prop) : Prop := ∃ es clk, σ[o]? = some (.map (strM es) clk) ∧ MapOk es clk ∧ (∀ e ∈ es, e.2.1 = .d (.bool true)) ∧ ∀ id, hasM id es = true ↔ p id
def TxtR (ws : List W) : Option V → Prop
  | none => ws = []
  | some v => v = .d (.lst 1 (ws.map .str))

theorem IdsAt.keep {σ σ' : List Ob} {o : Nat} {p : W → Prop} (h : IdsAt σ o p) (e : ∀ y, σ[o]? = some y → σ'[o]? = some y) : IdsAt σ' o p := by
  obtain ⟨es, clk, h1, h2⟩ := h
  exact ⟨es, clk, e _ h1, h2⟩

/-- The index x: its texts t, its words i; S: all its objects; A: the words of an id; p w id: the word w is kept for id; L: all ids. -/
structure IxP (σ : List Ob) (x t i : Nat) (S : Nat → Prop) (A : W → List W) (p : W → W → Prop) (L : List W) (tes : Es) (tc : Nat) (ies : Es) (ic : Nat) : Prop where
  box : σ[x]? = some (.box [.mp t, .mp i])
  sub : ∀ o, S o → o < σ.length
  sx : S x
  st : S t
  si : S i
  xt : x ≠ t
  xi : x ≠ i
  ti : t ≠ i
  tget : σ[t]? = some (.map (strM tes) tc)
  tok : MapOk tes tc
  txt : ∀ id, TxtR (A id) (findM id tes)
  iget : σ[i]? = some (.map (strM ies) ic)
  iok : MapOk ies ic
  yes : ∀ w v, findM w ies = some v → ∃ o, v = .mp o ∧ S o ∧ o ≠ x ∧ o ≠ t ∧ o ≠ i ∧ IdsAt σ o (p w)
  no : ∀ w, findM w ies = none → ∀ id, ¬ p w id
  inj : ∀ w w' o, findM w ies = some (.mp o) → findM w' ies = some (.mp o) → w = w'
  lim : ∀ w id, p w id → id ∈ L

def IxAt (σ : List Ob) (x t i : Nat) (S : Nat → Prop) (A : W → List W) (p : W → W → Prop) (L : List W) : Prop := ∃ tes tc ies ic, IxP σ x t i S A p L tes tc ies ic

section
variable {σ : List Ob} {x t i : Nat} {S : Nat → Prop} {A : W → List W} {p : W → W → Prop} {L : List W} {tes ies : Es} {tc ic : Nat}

theorem IxAt.congr (h : IxAt σ x t i S A p L) {p' : W → W → Prop} (e : ∀ w id, p w id ↔ p' w id) : IxAt σ x t i S A p' L := by
  have : p = p' := funext fun w => funext fun id => propext (e w id)
  rw [← this]; exact h
theorem IxAt.lims (h : IxAt σ x t i S A p L) {L' : List W} (hl : ∀ id ∈ L, id ∈ L') : IxAt σ x t i S A p L' := by
  obtain ⟨tes, tc, ies, ic, h⟩ := h
  exact ⟨tes, tc, ies, ic, { h with lim := fun w id g => hl _ (h.lim w id g) }⟩
/-- What others do. -/
theorem IxAt.keep (h : IxAt σ x t i S A p L) {σ' : List Ob} {S' : Nat → Prop} (hk : Keeps S' σ σ') (hd : ∀ o, S o → ¬ S' o) : IxAt σ' x t i S A p L := by
  obtain ⟨tes, tc, ies, ic, h⟩ := h
  have g : ∀ o y, S o → σ[o]? = some y → σ'[o]? = some y := fun o y hs ho => hk.get ho (hd o hs)
  refine ⟨tes, tc, ies, ic, { h with box := g _ _ h.sx h.box, sub := fun o ho => Nat.lt_of_lt_of_le (h.sub o ho) hk.1, tget := g _ _ h.st h.tget, iget := g _ _ h.si h.iget, yes := fun w v hf => ?_ }⟩
  obtain ⟨o, h1, h2, h3, h4, h5, h6⟩ := h.yes w v hf
  exact ⟨o, h1, h2, h3, h4, h5, h6.keep fun y => g o y h2⟩

/-- An id out of the map of a word. -/
theorem IxP.delId (h : IxP σ x t i S A p L tes tc ies ic) {w0 id : W} {o : Nat} {es : Es} {clk : Nat} (hf : findM w0 ies = some (.mp o)) (ho : σ[o]? = some (.map (strM es) clk)) (hok : MapOk es clk) (hv : ∀ e ∈ es, e.2.1 = .d (.bool true)) (hp : ∀ id, hasM id es = true ↔ p w0 id) (h3 : o ≠ x) (h4 : o ≠ t) (h5 : o ≠ i) :
    IxP (σ.set o (.map (strM (delM id es)) clk)) x t i S A (fun w id' => p w id' ∧ ¬ (w = w0 ∧ id' = id)) L tes tc ies ic := by
  have g : ∀ {o' y}, o' ≠ o → σ[o']? = some y → (σ.set o (.map (strM (delM id es)) clk))[o']? = some y := fun hne hy => by rw [List.getElem?_set_ne (Ne.symm hne)]; exact hy
  refine { h with box := g (Ne.symm h3) h.box, sub := fun o ho => by simpa using h.sub o ho, tget := g (Ne.symm h4) h.tget, iget := g (Ne.symm h5) h.iget, yes := fun w v hw => ?_, no := fun w hw id' hp' => h.no w hw id' hp'.1, lim := fun w id' hp' => h.lim w id' hp'.1 }
  obtain ⟨o', g1, g2, g3, g4, g5, g6⟩ := h.yes w v hw
  refine ⟨o', g1, g2, g3, g4, g5, ?_⟩
  by_cases hoo : o' = o
  · subst hoo
    subst g1
    have hww := h.inj _ _ _ hw hf
    subst hww
    refine ⟨delM id es, clk, by rw [List.getElem?_set_self (lt_of_get ho)], hok.del id, fun e he => hv e ((delM_sublist id es).subset he), fun id' => ?_⟩
    have hpi := hp id'
    rw [hasM_find] at hpi
    rw [hasM_find, findM_del _ _ _ hok.keys]
    show _ ↔ (p w id' ∧ ¬ (w = w ∧ id' = id))
    rw [← hpi]
    by_cases e : id' = id
    · subst e; simp
    · simp [e]
  · obtain ⟨es', clk', k1, k2, k3, k4⟩ := g6
    have hne : w ≠ w0 := by rintro rfl; rw [hf] at hw; cases hw; cases g1; exact hoo rfl
    exact ⟨es', clk', g hoo k1, k2, k3, fun id' => by rw [k4]; simp [hne]⟩
/-- A word that is kept for no id. -/
theorem IxP.delW (h : IxP σ x t i S A p L tes tc ies ic) {w0 : W} (hn : ∀ id, ¬ p w0 id) : IxP (σ.set i (.map (strM (delM w0 ies)) ic)) x t i S A p L tes tc (delM w0 ies) ic := by
  have g : ∀ {o' y}, o' ≠ i → σ[o']? = some y → (σ.set i (.map (strM (delM w0 ies)) ic))[o']? = some y := fun hne hy => by rw [List.getElem?_set_ne (Ne.symm hne)]; exact hy
  have hf := fun w => findM_del w0 w ies h.iok.keys
  refine { h with box := g h.xi h.box, sub := fun o ho => by simpa using h.sub o ho, tget := g h.ti h.tget, iget := by rw [List.getElem?_set_self (lt_of_get h.iget)], iok := h.iok.del w0, yes := fun w v hw => ?_, no := fun w hw id => ?_, inj := fun w w' o h1 h2 => ?_ }
  · rw [hf] at hw
    split at hw
    · cases hw
    · obtain ⟨o', g1, g2, g3, g4, g5, g6⟩ := h.yes w v hw
      exact ⟨o', g1, g2, g3, g4, g5, g6.keep fun y => g g5⟩
  · rw [hf] at hw
    split at hw
    · rename_i e; subst e; exact hn id
    · exact h.no w hw id
  · rw [hf] at h1 h2
    split at h1
    · cases h1
    · split at h2
      · cases h2
      · exact h.inj _ _ _ h1 h2
/-- The words of an id are told. -/
theorem IxP.setT (h : IxP σ x t i S A p L tes tc ies ic) {tes' : Es} {tc' : Nat} {A' : W → List W} (hok : MapOk tes' tc') (ht : ∀ id, TxtR (A' id) (findM id tes')) : IxP (σ.set t (.map (strM tes') tc')) x t i S A' p L tes' tc' ies ic := by
  have g : ∀ {o' y}, o' ≠ t → σ[o']? = some y → (σ.set t (.map (strM tes') tc'))[o']? = some y := fun hne hy => by rw [List.getElem?_set_ne (Ne.symm hne)]; exact hy
  refine { h with box := g h.xt h.box, sub := fun o ho => by simpa using h.sub o ho, tget := by rw [List.getElem?_set_self (lt_of_get h.tget)], tok := hok, txt := ht, iget := g (Ne.symm h.ti) h.iget, yes := fun w v hw => ?_ }
  obtain ⟨o', g1, g2, g3, g4, g5, g6⟩ := h.yes w v hw
  exact ⟨o', g1, g2, g3, g4, g5, g6.keep fun y => g g4⟩
/-- A new map for a word. -/
theorem IxP.newW (h : IxP σ x t i S A p L tes tc ies ic) {w0 : W} (hf : findM w0 ies = none) :
    IxP ((σ ++ [Ob.map [] 0]).set i (.map (strM (putM w0 (.mp σ.length) ic ies)) (if hasM w0 ies then ic else ic + 1))) x t i (fun o => S o ∨ o = σ.length) A p L tes tc (putM w0 (.mp σ.length) ic ies) (if hasM w0 ies then ic else ic + 1) := by
  have g : ∀ {o' y}, o' ≠ i → σ[o']? = some y → ((σ ++ [Ob.map [] 0]).set i (.map (strM (putM w0 (.mp σ.length) ic ies)) (if hasM w0 ies then ic else ic + 1)))[o']? = some y := fun hne hy => by rw [List.getElem?_set_ne (Ne.symm hne)]; exact app_get hy _
  have hfp := fun w => findM_put w0 w (.mp σ.length) ic ies
  have hil := lt_of_get h.iget
  have hxl := lt_of_get h.box
  have htl := lt_of_get h.tget
  refine { h with box := g h.xi h.box, sub := fun o ho => ?_, sx := .inl h.sx, st := .inl h.st, si := .inl h.si, tget := g h.ti h.tget, iget := by rw [List.getElem?_set_self (by simp; omega)], iok := h.iok.put _ _, yes := fun w v hw => ?_, no := fun w hw id => ?_, inj := fun w w' o h1 h2 => ?_ }
  · simp only [List.length_set, List.length_append, List.length_cons, List.length_nil]
    rcases ho with ho | rfl
    · have := h.sub o ho; omega
    · omega
  · rw [hfp] at hw
    split at hw
    · rename_i e; subst e
      cases hw
      refine ⟨σ.length, rfl, .inr rfl, by omega, by omega, by omega, [], 0, ?_, ⟨by simp, by simp, by simp⟩, by simp, fun id => ?_⟩
      · rw [List.getElem?_set_ne (by omega)]; simp [strM]
      · simp [hasM, h.no w hf id]
    · obtain ⟨o', g1, g2, g3, g4, g5, g6⟩ := h.yes w v hw
      exact ⟨o', g1, .inl g2, g3, g4, g5, g6.keep fun y => g g5⟩
  · rw [hfp] at hw
    split at hw
    · cases hw
    · exact h.no w hw id
  · have lt : ∀ w, findM w ies = some (.mp o) → o < σ.length := fun w hw => by
      obtain ⟨o', g1, g2, _⟩ := h.yes w _ hw
      cases g1; exact h.sub _ g2
    rw [hfp] at h1 h2
    split at h1
    · rename_i e1; cases h1
      split at h2
      · rename_i e2; rw [e1, e2]
      · have := lt _ h2; omega
    · split at h2
      · cases h2; have := lt _ h1; omega
      · exact h.inj _ _ _ h1 h2
/-- An id into the map of a word. -/
theorem IxP.putId (h : IxP σ x t i S A p L tes tc ies ic) {w0 id : W} {o : Nat} {es : Es} {clk : Nat} (hf : findM w0 ies = some (.mp o)) (ho : σ[o]? = some (.map (strM es) clk)) (hok : MapOk es clk) (hv : ∀ e ∈ es, e.2.1 = .d (.bool true)) (hp : ∀ id, hasM id es = true ↔ p w0 id) (h3 : o ≠ x) (h4 : o ≠ t) (h5 : o ≠ i) (hL : id ∈ L) :
    IxP (σ.set o (.map (strM (putM id (.d (.bool true)) clk es)) (if hasM id es then clk else clk + 1))) x t i S A (fun w id' => p w id' ∨ (w = w0 ∧ id' = id)) L tes tc ies ic := by
  have g : ∀ {o' y}, o' ≠ o → σ[o']? = some y → (σ.set o (.map (strM (putM id (.d (.bool true)) clk es)) (if hasM id es then clk else clk + 1)))[o']? = some y := fun hne hy => by rw [List.getElem?_set_ne (Ne.symm hne)]; exact hy
  refine { h with box := g (Ne.symm h3) h.box, sub := fun o ho => by simpa using h.sub o ho, tget := g (Ne.symm h4) h.tget, iget := g (Ne.symm h5) h.iget, yes := fun w v hw => ?_, no := fun w hw id' hp' => ?_, lim := fun w id' hp' => ?_ }
  · obtain ⟨o', g1, g2, g3, g4, g5, g6⟩ := h.yes w v hw
    refine ⟨o', g1, g2, g3, g4, g5, ?_⟩
    by_cases hoo : o' = o
    · subst hoo
      subst g1
      have hww := h.inj _ _ _ hw hf
      subst hww
      refine ⟨_, _, by rw [List.getElem?_set_self (lt_of_get ho)], hok.put _ _, fun e he => ?_, fun id' => ?_⟩
      · rcases putM_sub _ _ _ _ e he with k | ⟨_, k, _⟩
        · exact hv e k
        · exact k
      · have hpi := hp id'
        rw [hasM_find] at hpi
        rw [hasM_find, findM_put]
        show _ ↔ (p w id' ∨ (w = w ∧ id' = id))
        rw [← hpi]
        by_cases e : id' = id
        · subst e; simp
        · simp [e]
    · obtain ⟨es', clk', k1, k2, k3, k4⟩ := g6
      have hne : w ≠ w0 := by rintro rfl; rw [hf] at hw; cases hw; cases g1; exact hoo rfl
      exact ⟨es', clk', g hoo k1, k2, k3, fun id' => by rw [k4]; simp [hne]⟩
  · rcases hp' with k | ⟨rfl, _⟩
    · exact h.no w hw id' k
    · rw [hf] at hw; cases hw
  · rcases hp' with k | ⟨_, rfl⟩
    · exact h.lim w id' k
    · exact hL
end
end Go.Proofs.YtchgfpehcjomeaaGreatDoor.Am
