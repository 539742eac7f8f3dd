/- The engine's names of objects: a call that knows a part of the store alone, results, what a function leaves behind. -/
import Derived.Test.YtchgfpehcjomeaaGreatDoorAmL
set_option linter.unusedSimpArgs false
set_option linter.unusedVariables false
namespace Go.Proofs.YtchgfpehcjomeaaGreatDoor.Am
open Go

/-! ### other names for the objects -/
mutual
def renV (g : Nat → Option Nat) : V → V
  | .ptr o i k => match g o with | some j => .ptr j i k | none => .undef
  | .sl o off len => match g o with | some j => .sl j off len | none => .undef
  | .mp o => match g o with | some j => .mp j | none => .undef
  | .fn f caps => .fn f (renVs g caps)
  | .bm f caps => .bm f (renVs g caps)
  | .agg cs => .agg (renVs g cs)
  | .tup cs => .tup (renVs g cs)
  | x => x
def renVs (g : Nat → Option Nat) : List V → List V
  | [] => []
  | x :: r => renV g x :: renVs g r
end

def renO (g : Nat → Option Nat) : Ob → Ob
  | .box cs => .box (renVs g cs)
  | .vec sz cs => .vec sz (renVs g cs)
  | .map es clk => .map (es.map fun e => (e.1, renV g e.2.1, e.2.2)) clk
  | .mit m since seen last => .mit (renV g m) since seen last
  | x => x

@[simp] theorem renVs_length (g : Nat → Option Nat) : ∀ xs : List V, (renVs g xs).length = xs.length
  | [] => rfl
  | x :: r => by simp [renVs, renVs_length g r]

mutual
theorem VR_ren {I : Im} {w : World} {l l' : Nat → Loc} {g : Nat → Option Nat} (hg : ∀ o j, g o = some j → l' j = l o) : ∀ (x : V) (v : Value), VR I w l x v → VR I w l' (renV g x) v
  | .d x, v, r => by simpa [renV, VR] using r
  | .ptr o i k, v, r => by
    simp only [renV]
    cases h : g o with
    | none => simp [VR]
    | some j => simp only [VR] at r ⊢; rw [hg o j h]; exact r
  | .ipt cs, v, r => by simpa [renV, VR] using r
  | .sl o off len, v, r => by
    simp only [renV]
    cases h : g o with
    | none => simp [VR]
    | some j => simp only [VR] at r ⊢; rw [hg o j h]; exact r
  | .mp o, v, r => by
    simp only [renV]
    cases h : g o with
    | none => simp [VR]
    | some j => simp only [VR] at r ⊢; rw [hg o j h]; exact r
  | .fn f caps, v, r => by
    simp only [renV, VR] at r ⊢
    obtain ⟨vs, h1, h2⟩ := r
    exact ⟨vs, h1, VRs_ren hg caps vs h2⟩
  | .bm f caps, v, r => by
    simp only [renV, VR] at r ⊢
    obtain ⟨vs, h1, h2⟩ := r
    exact ⟨vs, h1, VRs_ren hg caps vs h2⟩
  | .agg cs, v, r => by
    simp only [renV, VR] at r ⊢
    obtain ⟨vs, h1, h2⟩ := r
    exact ⟨vs, h1, VRs_ren hg cs vs h2⟩
  | .tup cs, v, r => by
    simp only [renV, VR] at r ⊢
    obtain ⟨vs, h1, h2⟩ := r
    exact ⟨vs, h1, VRs_ren hg cs vs h2⟩
  | .undef, _, _ => by simp [renV, VR]
theorem VRs_ren {I : Im} {w : World} {l l' : Nat → Loc} {g : Nat → Option Nat} (hg : ∀ o j, g o = some j → l' j = l o) : ∀ (xs : List V) (vs : List Value), VRs I w l xs vs → VRs I w l' (renVs g xs) vs
  | [], vs, r => by simpa [renVs, VRs] using r
  | x :: xs, vs, r => by
    simp only [renVs, VRs] at r ⊢
    obtain ⟨v, t, h1, h2, h3⟩ := r
    exact ⟨v, t, h1, VR_ren hg x v h2, VRs_ren hg xs t h3⟩
end

mutual
theorem VR_unren {I : Im} {w : World} {l l' : Nat → Loc} {g : Nat → Nat} (hg : ∀ o, l' (g o) = l o) : ∀ (x : V) (v : Value), VR I w l' (renV (fun o => some (g o)) x) v → VR I w l x v
  | .d x, v, r => by simpa [renV, VR] using r
  | .ptr o i k, v, r => by simp only [renV, VR] at r ⊢; rw [hg o] at r; exact r
  | .ipt cs, v, r => by simpa [renV, VR] using r
  | .sl o off len, v, r => by simp only [renV, VR] at r ⊢; rw [hg o] at r; exact r
  | .mp o, v, r => by simp only [renV, VR] at r ⊢; rw [hg o] at r; exact r
  | .fn f caps, v, r => by
    simp only [renV, VR] at r ⊢
    obtain ⟨vs, h1, h2⟩ := r
    exact ⟨vs, h1, VRs_unren hg caps vs h2⟩
  | .bm f caps, v, r => by
    simp only [renV, VR] at r ⊢
    obtain ⟨vs, h1, h2⟩ := r
    exact ⟨vs, h1, VRs_unren hg caps vs h2⟩
  | .agg cs, v, r => by
    simp only [renV, VR] at r ⊢
    obtain ⟨vs, h1, h2⟩ := r
    exact ⟨vs, h1, VRs_unren hg cs vs h2⟩
  | .tup cs, v, r => by
    simp only [renV, VR] at r ⊢
    obtain ⟨vs, h1, h2⟩ := r
    exact ⟨vs, h1, VRs_unren hg cs vs h2⟩
  | .undef, _, _ => by simp [VR]
theorem VRs_unren {I : Im} {w : World} {l l' : Nat → Loc} {g : Nat → Nat} (hg : ∀ o, l' (g o) = l o) : ∀ (xs : List V) (vs : List Value), VRs I w l' (renVs (fun o => some (g o)) xs) vs → VRs I w l xs vs
  | [], vs, r => by simpa [renVs, VRs] using r
  | x :: xs, vs, r => by
    simp only [renVs, VRs] at r ⊢
    obtain ⟨v, t, h1, h2, h3⟩ := r
    exact ⟨v, t, h1, VR_unren hg x v h2, VRs_unren hg xs t h3⟩
end

theorem MapR.ren {I J : Im} {w w' : World} {l l' : Nat → Loc} (h : I.Le J) {f : V → V} (hv : ∀ x v, VR I w l x v → VR J w' l' (f x) v) {es : List (D × V × Nat)} {ents : List MapEntry} (m : MapR I w l es ents) : MapR J w' l' (es.map fun e => (e.1, f e.2.1, e.2.2)) ents := by
  induction m with
  | nil => exact .nil
  | cons a b e _ ih => exact .cons (DR_mono h _ _ a) (hv _ _ b) e ih
theorem MapR.unren {I J : Im} {w w' : World} {l l' : Nat → Loc} (h : I.Le J) {f : V → V} (hv : ∀ x v, VR I w l (f x) v → VR J w' l' x v) : ∀ {es : List (D × V × Nat)} {ents : List MapEntry}, MapR I w l (es.map fun e => (e.1, f e.2.1, e.2.2)) ents → MapR J w' l' es ents
  | [], ents, m => by cases m; exact .nil
  | (k, x, n) :: es, ents, m => by
    cases m with
    | cons a b e m => exact .cons (DR_mono h _ _ a) (hv _ _ b) e (MapR.unren h hv m)

/-- Two contexts over one memory: the immutable part is the same or more. -/
theorem OR_ren {c c' : Cx} (hw : c'.w = c.w) (hi : c.im.Le c'.im) {g : Nat → Option Nat} (hg : ∀ o j, g o = some j → c'.loc j = c.loc o) {l : Loc} {x : Ob} (r : OR c l x) : OR c' l (renO g x) := by
  have hcell : ∀ b o, c'.im.cell b o = c.im.cell b o := fun b o => by simp [Cx.im, hw]
  cases x with
  | dead => exact r
  | box cs =>
    obtain ⟨b, bs, h0, arr, e, f, h1, h2, us, rest, hu, h3⟩ := r
    refine ⟨b, bs, h0, arr, e, f, by rw [hw]; exact h1, h2, us, rest, hu, ?_⟩
    have : VRs c'.im c'.w c.loc cs us := VRs_mono hi (fun o => .inl rfl) (fun b cs e f h => ⟨cs, f, by rw [hw]; exact h, rfl⟩) cs _ h3
    exact VRs_ren hg cs _ this
  | vec sz cs =>
    obtain ⟨b, bs, h0, h0', arr, e, f, h1, h2, us, hle, hat, h3⟩ := r
    refine ⟨b, bs, h0, h0', arr, e, f, by rw [hw]; exact h1, h2, us, hle, hat, ?_⟩
    have : VRs c'.im c'.w c.loc cs us := VRs_mono hi (fun o => .inl rfl) (fun b cs e f h => ⟨cs, f, by rw [hw]; exact h, rfl⟩) cs _ h3
    exact VRs_ren hg cs _ this
  | arr sz mk es =>
    rcases r with r | ⟨b, base, h0, h1, arr, e, f, h2, h3, h4, h5⟩
    · exact .inl r
    · exact .inr ⟨b, base, h0, h1, arr, e, f, by rw [hw]; exact h2, h3, h4, RowsR_mono hi es b base sz (fun o => hcell b o) h5⟩
  | map es clk =>
    obtain ⟨b, h0, ents, h1, h2, h3, h4⟩ := r
    have hv : ∀ x v, VR c.im c.w c.loc x v → VR c'.im c'.w c'.loc (renV g x) v := fun x v q =>
      VR_ren hg x v (VR_mono hi (fun o => .inl rfl) (fun b cs e f h => ⟨cs, f, by rw [hw]; exact h, rfl⟩) x v q)
    refine ⟨b, h0, ents, by rw [hw]; exact h1, h2.ren hi hv, by simpa [List.map_map, Function.comp_def] using h3, fun e he => ?_⟩
    obtain ⟨e', he', rfl⟩ := List.mem_map.1 he
    exact h4 e' he'
  | mit m since seen last =>
    obtain ⟨b, h0, q, h1, h2⟩ := r
    exact ⟨b, h0, q, by rw [hw]; exact h1, VR_ren hg m _ (VR_mono hi (fun o => .inl rfl) (fun b cs e f h => ⟨cs, f, by rw [hw]; exact h, rfl⟩) m _ h2)⟩
  | sit s pos =>
    obtain ⟨b, h0, h1⟩ := r
    exact ⟨b, h0, by rw [hw]; exact h1⟩

theorem OR_unren {c c' : Cx} (hw : c'.w = c.w) (hi : c'.im.Le c.im) {g : Nat → Nat} (hg : ∀ o, c'.loc (g o) = c.loc o) {l : Loc} {x : Ob} (r : OR c' l (renO (fun o => some (g o)) x)) : OR c l x := by
  have hcell : ∀ b o, c.im.cell b o = c'.im.cell b o := fun b o => by simp [Cx.im, hw]
  cases x with
  | dead => exact r
  | box cs =>
    obtain ⟨b, bs, h0, arr, e, f, h1, h2, us, rest, hu, h3⟩ := r
    refine ⟨b, bs, h0, arr, e, f, by rw [← hw]; exact h1, h2, us, rest, hu, ?_⟩
    have : VRs c.im c.w c'.loc (renVs (fun o => some (g o)) cs) us := VRs_mono hi (fun o => .inl rfl) (fun b cs e f h => ⟨cs, f, by rw [← hw]; exact h, rfl⟩) _ _ h3
    exact VRs_unren hg cs _ this
  | vec sz cs =>
    obtain ⟨b, bs, h0, h0', arr, e, f, h1, h2, us, hle, hat, h3⟩ := r
    refine ⟨b, bs, h0, h0', arr, e, f, by rw [← hw]; exact h1, h2, us, hle, hat, ?_⟩
    have : VRs c.im c.w c'.loc (renVs (fun o => some (g o)) cs) us := VRs_mono hi (fun o => .inl rfl) (fun b cs e f h => ⟨cs, f, by rw [← hw]; exact h, rfl⟩) _ _ h3
    exact VRs_unren hg cs _ this
  | arr sz mk es =>
    rcases r with r | ⟨b, base, h0, h1, arr, e, f, h2, h3, h4, h5⟩
    · exact .inl r
    · exact .inr ⟨b, base, h0, h1, arr, e, f, by rw [← hw]; exact h2, h3, h4, RowsR_mono hi es b base sz (fun o => hcell b o) h5⟩
  | map es clk =>
    obtain ⟨b, h0, ents, h1, h2, h3, h4⟩ := r
    have hv : ∀ x v, VR c'.im c'.w c'.loc (renV (fun o => some (g o)) x) v → VR c.im c.w c.loc x v := fun x v q =>
      VR_unren hg x v (VR_mono hi (fun o => .inl rfl) (fun b cs e f h => ⟨cs, f, by rw [← hw]; exact h, rfl⟩) _ v q)
    refine ⟨b, h0, ents, by rw [← hw]; exact h1, MapR.unren hi hv h2, by simpa [List.map_map, Function.comp_def] using h3, fun e he => ?_⟩
    exact h4 (e.1, renV (fun o => some (g o)) e.2.1, e.2.2) (List.mem_map.2 ⟨e, he, rfl⟩)
  | mit m since seen last =>
    obtain ⟨b, h0, q, h1, h2⟩ := r
    exact ⟨b, h0, q, by rw [← hw]; exact h1, VR_unren hg m _ (VR_mono hi (fun o => .inl rfl) (fun b cs e f h => ⟨cs, f, by rw [← hw]; exact h, rfl⟩) _ _ h2)⟩
  | sit s pos =>
    obtain ⟨b, h0, h1⟩ := r
    exact ⟨b, h0, by rw [← hw]; exact h1⟩

/-! ### a call that knows a part of the store alone -/

/-- The small store's names in the great one: its i-th object is the great one's ρ[i]; what is new comes behind the N objects that are there. -/
def emb (ρ : List Nat) (N : Nat) (o : Nat) : Nat := match ρ[o]? with | some j => j | none => N + (o - ρ.length)

def backInto (τ : List Ob) : List Nat → List Ob → List Ob
  | i :: ρ, x :: xs => backInto (τ.set i x) ρ xs
  | _, _ => τ

def embV (ρ : List Nat) (N : Nat) : V → V := renV fun o => some (emb ρ N o)
def embVs (ρ : List Nat) (N : Nat) : List V → List V := renVs fun o => some (emb ρ N o)
def embO (ρ : List Nat) (N : Nat) : Ob → Ob := renO fun o => some (emb ρ N o)

/-- The great store behind a call that has turned the small one into σ'. -/
def storeBack (τ : List Ob) (ρ : List Nat) (σ' : List Ob) : List Ob :=
  backInto τ ρ (σ'.map (embO ρ τ.length)) ++ (σ'.drop ρ.length).map (embO ρ τ.length)

theorem backInto_length : ∀ (ρ : List Nat) (xs : List Ob) (τ : List Ob), (backInto τ ρ xs).length = τ.length
  | [], xs, τ => by cases xs <;> rfl
  | i :: ρ, [], τ => rfl
  | i :: ρ, x :: xs, τ => by simp only [backInto]; rw [backInto_length ρ xs]; simp

theorem backInto_out : ∀ (ρ : List Nat) (xs : List Ob) (τ : List Ob) (o : Nat), o ∉ ρ → (backInto τ ρ xs)[o]? = τ[o]?
  | [], xs, τ, o, _ => by cases xs <;> rfl
  | i :: ρ, [], τ, o, _ => rfl
  | i :: ρ, x :: xs, τ, o, h => by
    simp only [List.mem_cons, not_or] at h
    simp only [backInto]
    rw [backInto_out ρ xs _ o h.2, List.getElem?_set_ne (Ne.symm h.1)]

theorem backInto_in : ∀ (ρ : List Nat) (xs : List Ob) (τ : List Ob), ρ.Nodup → (∀ i ∈ ρ, i < τ.length) → ρ.length ≤ xs.length → ∀ (j i : Nat), ρ[j]? = some i → (backInto τ ρ xs)[i]? = xs[j]?
  | [], xs, τ, _, _, _, j, i, h => by simp at h
  | k :: ρ, [], τ, _, _, hl, j, i, h => by simp at hl
  | k :: ρ, x :: xs, τ, hn, hlt, hl, j, i, h => by
    simp only [List.nodup_cons] at hn
    simp only [backInto]
    cases j with
    | zero =>
      simp at h; subst h
      rw [backInto_out ρ xs _ k hn.1, List.getElem?_set_self (hlt k (by simp))]
      simp
    | succ j =>
      simp at h
      rw [backInto_in ρ xs _ hn.2 (fun i hi => by rw [List.length_set]; exact hlt i (by simp [hi])) (by simpa using hl) j i h]
      simp

theorem emb_lt {ρ : List Nat} {N j i : Nat} (h : ρ[j]? = some i) : emb ρ N j = i := by simp [emb, h]
theorem emb_ge {ρ : List Nat} {N j : Nat} (h : ρ.length ≤ j) : emb ρ N j = N + (j - ρ.length) := by simp [emb, List.getElem?_eq_none h]

theorem emb_inj {ρ : List Nat} {N : Nat} (hn : ρ.Nodup) (hlt : ∀ i ∈ ρ, i < N) {a b : Nat} (h : emb ρ N a = emb ρ N b) : a = b := by
  by_cases ha : a < ρ.length <;> by_cases hb : b < ρ.length
  · rw [emb_lt (List.getElem?_eq_getElem ha), emb_lt (List.getElem?_eq_getElem hb)] at h
    exact (List.getElem_inj hn).1 h
  · rw [emb_lt (List.getElem?_eq_getElem ha), emb_ge (by omega)] at h
    have := hlt _ (List.getElem_mem ha)
    omega
  · rw [emb_ge (by omega), emb_lt (List.getElem?_eq_getElem hb)] at h
    have := hlt _ (List.getElem_mem hb)
    omega
  · rw [emb_ge (by omega), emb_ge (by omega)] at h
    omega

/-- The context in which a call sees a part of the store alone. -/
def frameC (c : Cx) (ρ : List Nat) (N : Nat) : Cx := ⟨c.w, fun o => c.loc (emb ρ N o), ⟨fun b => c.hid.blk b ∨ ∃ o base sz, o ∉ ρ ∧ c.loc o = .here b base sz, []⟩⟩

/-- What a call leaves that sees a part of the store alone, said of the whole. -/
theorem frame_post {c : Cx} {σ τ : List Ob} (hs : SR c τ) {ρ : List Nat} (hn : ρ.Nodup) (hlen : ρ.length = σ.length) (hlt : ∀ i ∈ ρ, i < τ.length) (hS0 : SR (frameC c ρ τ.length) σ) {K : V → List Ob → Prop} {e : Ending} {w' : World} (hp : CallPost (frameC c ρ τ.length) K e w') :
    CallPost c (fun r τ' => ∃ r0 σ0, K r0 σ0 ∧ r = embV ρ τ.length r0 ∧ τ' = storeBack τ ρ σ0) e w' := by
  let N := τ.length
  let g := emb ρ N
  let c0 : Cx := frameC c ρ N
  change SR c0 σ at hS0
  change CallPost c0 K e w' at hp
  have hgout : ∀ o, ρ.length ≤ o → c.loc (g o) = .unborn := fun o ho => hs.unborn (by show τ.length ≤ emb ρ N o; rw [emb_ge ho]; omega)
  have hown0 : ∀ b, c0.own b → c.own b := by rintro b ⟨o, base, sz, e⟩; exact ⟨g o, base, sz, e⟩
  have hsplit : ∀ b, c.own b → c0.own b ∨ ∃ o base sz, o ∉ ρ ∧ c.loc o = .here b base sz := by
    rintro b ⟨o, base, sz, e⟩
    by_cases ho : o ∈ ρ
    · obtain ⟨j, hj⟩ := List.getElem?_of_mem ho
      exact .inl ⟨j, base, sz, by show c.loc (emb ρ N j) = _; rw [emb_lt hj]; exact e⟩
    · exact .inr ⟨o, base, sz, ho, e⟩
  have hout0 : ∀ b, (∃ o base sz, o ∉ ρ ∧ c.loc o = .here b base sz) → ¬ c0.own b := by
    rintro b ⟨o, base, sz, ho, e⟩ ⟨o', base', sz', e'⟩
    have := hs.inj e e'
    subst this
    by_cases q : o' < ρ.length
    · exact ho (by show emb ρ N o' ∈ ρ; rw [emb_lt (List.getElem?_eq_getElem q)]; exact List.getElem_mem q)
    · have := hgout o' (by omega)
      change c.loc (g o') = _ at e'
      rw [this] at e'; cases e'
  have him : c.im.Le c0.im := by
    intro b hb
    exact ⟨⟨hb.1, fun q => hb.2.1 (hown0 b q), fun q => q.elim hb.2.2 fun ⟨o, base, sz, _, e⟩ => hb.2.1 ⟨o, base, sz, e⟩⟩, fun o => rfl⟩
  have him' : c0.im.Le c.im := by
    intro b hb
    exact ⟨⟨hb.1, fun q => (hsplit b q).elim hb.2.1 fun q' => hb.2.2 (.inr q'), fun q => hb.2.2 (.inl q)⟩, fun o => rfl⟩
  cases e with
  | outgrown => exact hp
  | panicked _ => exact hp
  | returned v =>
    obtain ⟨loc0, σ0, r0, k1, k2, k3, k4⟩ := hp
    have hge : ρ.length ≤ σ0.length := by
      rcases Nat.lt_or_ge σ0.length ρ.length with q | q
      · exfalso
        have h1 := k1.unborn (o := σ0.length) (Nat.le_refl _)
        have h2 := hS0.not_unborn (o := σ0.length) (by omega)
        rcases k2.loc σ0.length with e | e | e
        · rw [h1] at e; exact h2 e.symm
        · rw [h1] at e; cases e
        · exact h2 e
      · exact q
    -- the great context behind the call
    let inv : Nat → Option Nat := fun o => if o < N then ρ.idxOf? o else some (ρ.length + (o - N))
    let loc' : Nat → Loc := fun o => match inv o with | some j => loc0 j | none => c.loc o
    have hinv : ∀ j, inv (g j) = some j := by
      intro j
      show (if emb ρ N j < N then ρ.idxOf? (emb ρ N j) else some (ρ.length + (emb ρ N j - N))) = some j
      by_cases q : j < ρ.length
      · have hr := List.getElem?_eq_getElem q
        rw [emb_lt hr, if_pos (hlt _ (List.getElem_mem q))]
        rw [List.idxOf?_eq_some_iff]
        refine ⟨q, by simp, fun i hi => ?_⟩
        intro e
        exact Nat.ne_of_lt hi ((List.getElem_inj hn).1 e)
      · rw [emb_ge (by omega), if_neg (by omega)]
        congr 1; omega
    have hlocg : ∀ j, loc' (g j) = loc0 j := fun j => by show (match inv (g j) with | some j => loc0 j | none => c.loc (g j)) = _; rw [hinv]
    have hout : ∀ o, o < N → o ∉ ρ → loc' o = c.loc o := by
      intro o ho hr
      have : inv o = none := by show (if o < N then ρ.idxOf? o else _) = none; rw [if_pos ho, List.idxOf?_eq_none_iff]; exact hr
      show (match inv o with | some j => loc0 j | none => c.loc o) = _
      rw [this]
    have hcase : ∀ o, (∃ j, o = g j) ∨ (o < N ∧ o ∉ ρ) := by
      intro o
      by_cases q : o < N
      · by_cases hr : o ∈ ρ
        · obtain ⟨j, hj⟩ := List.getElem?_of_mem hr
          exact .inl ⟨j, (emb_lt hj).symm⟩
        · exact .inr ⟨q, hr⟩
      · exact .inl ⟨ρ.length + (o - N), by show o = emb ρ N _; rw [emb_ge (by omega)]; omega⟩
    let c1 : Cx := ⟨w', loc0, c0.hid⟩
    let c' : Cx := ⟨w', loc', c.hid⟩
    have hown' : ∀ b, c'.own b → c1.own b ∨ ∃ o base sz, o ∉ ρ ∧ c.loc o = .here b base sz := by
      rintro b ⟨o, base, sz, e⟩
      rcases hcase o with ⟨j, rfl⟩ | ⟨q1, q2⟩
      · exact .inl ⟨j, base, sz, by show loc0 j = _; rw [← hlocg j]; exact e⟩
      · exact .inr ⟨o, base, sz, q2, by rw [← hout o q1 q2]; exact e⟩
    have hownb : ∀ b, c1.own b → c'.own b := by
      rintro b ⟨j, base, sz, e⟩
      exact ⟨g j, base, sz, by show loc' (g j) = _; rw [hlocg]; exact e⟩
    have houtb : ∀ b, (∃ o base sz, o ∉ ρ ∧ c.loc o = .here b base sz) → c'.own b := by
      rintro b ⟨o, base, sz, q, e⟩
      have : o < N := hs.born (by rw [e]; simp)
      exact ⟨o, base, sz, by show loc' o = _; rw [hout o this q]; exact e⟩
    have hstay : ∀ b, (∃ o base sz, o ∉ ρ ∧ c.loc o = .here b base sz) → w'.heap[b]? = c.w.heap[b]? ∧ ¬ c1.own b := by
      intro b hb
      obtain ⟨o, base, sz, _, e⟩ := hb
      exact k2.frame b (hs.lt e) (hout0 b ⟨o, base, sz, by assumption, e⟩)
    have hE : Ext c c' := by
      refine ⟨rfl, k2.size, k2.cells, fun b hb ho => ?_, fun o => ?_, k2.io⟩
      · obtain ⟨h1, h2⟩ := k2.frame b hb fun q => ho (hown0 b q)
        refine ⟨h1, fun q => ?_⟩
        rcases hown' b q with q | ⟨o, base, sz, _, e⟩
        · exact h2 q
        · exact ho ⟨o, base, sz, e⟩
      · rcases hcase o with ⟨j, rfl⟩ | ⟨q1, q2⟩
        · show loc' (g j) = c.loc (g j) ∨ loc' (g j) = .dead ∨ _
          rw [hlocg]
          exact k2.loc j
        · exact .inl (hout o q1 q2)
    have him1 : c1.im.Le c'.im := by
      intro b hb
      refine ⟨⟨hb.1, fun q => ?_, fun q => hb.2.2 (.inl q)⟩, fun o => rfl⟩
      rcases hown' b q with q | q
      · exact hb.2.1 q
      · exact hb.2.2 (.inr q)
    have hS : SR c' (storeBack τ ρ σ0) := by
      have hmaplen : ρ.length ≤ (σ0.map (embO ρ N)).length := by simpa using hge
      refine ⟨fun o => ?_, ?_, hs.hid_ext hE, hE.glob hs.gl⟩
      · show ORo c' (loc' o) (storeBack τ ρ σ0)[o]?
        rcases hcase o with ⟨j, rfl⟩ | ⟨q1, q2⟩
        · rw [hlocg]
          have hget : (storeBack τ ρ σ0)[g j]? = (σ0[j]?).map (embO ρ N) := by
            unfold storeBack
            by_cases q : j < ρ.length
            · have hr := List.getElem?_eq_getElem q
              have hl : g j < τ.length := by show emb ρ N j < _; rw [emb_lt hr]; exact hlt _ (List.getElem_mem q)
              rw [List.getElem?_append_left (by rw [backInto_length]; exact hl)]
              have := backInto_in ρ (σ0.map (embO ρ N)) τ hn hlt hmaplen j _ hr
              show (backInto τ ρ (σ0.map (embO ρ N)))[emb ρ N j]? = _
              rw [emb_lt hr, this, List.getElem?_map]
            · have hg : g j = N + (j - ρ.length) := emb_ge (by omega)
              rw [hg, List.getElem?_append_right (by rw [backInto_length]; show τ.length ≤ N + _; exact Nat.le_add_right _ _), backInto_length, List.getElem?_map, List.getElem?_drop]
              congr 2
              show ρ.length + (τ.length + (j - ρ.length) - τ.length) = j
              omega
          rw [hget]
          have r := k1.obj j
          cases hx : σ0[j]? with
          | none => rw [hx] at r; exact r
          | some x =>
            rw [hx] at r
            exact OR_ren (c := c1) (c' := c') rfl him1 (fun o j' e => by simp at e; subst e; exact hlocg o) r
        · rw [hout o q1 q2]
          have hget : (storeBack τ ρ σ0)[o]? = τ[o]? := by
            unfold storeBack
            rw [List.getElem?_append_left (by rw [backInto_length]; exact q1), backInto_out _ _ _ _ q2]
          rw [hget]
          have r := hs.obj o
          cases hx : τ[o]? with
          | none => rw [hx] at r; exact r
          | some x =>
            rw [hx] at r
            exact OR.keep hE r fun b base sz e => (hstay b ⟨o, base, sz, q2, e⟩).1
      · intro o o' b base sz base' sz' e e'
        change loc' o = _ at e
        change loc' o' = _ at e'
        rcases hcase o with ⟨j, rfl⟩ | ⟨q1, q2⟩ <;> rcases hcase o' with ⟨j', rfl⟩ | ⟨q1', q2'⟩
        · rw [hlocg] at e e'
          rw [k1.inj e e']
        · rw [hlocg] at e
          rw [hout o' q1' q2'] at e'
          exact ((hstay b ⟨o', base', sz', q2', e'⟩).2 ⟨j, base, sz, e⟩).elim
        · rw [hlocg] at e'
          rw [hout o q1 q2] at e
          exact ((hstay b ⟨o, base, sz, q2, e⟩).2 ⟨j', base', sz', e'⟩).elim
        · rw [hout o q1 q2] at e
          rw [hout o' q1' q2'] at e'
          exact hs.inj e e'
    refine ⟨loc', storeBack τ ρ σ0, embV ρ N r0, hS, hE, ?_, r0, σ0, k4, rfl, rfl⟩
    have h1 : VR c'.im c'.w loc0 r0 v := VR_mono him1 (fun o => .inl rfl) (fun b cs e f h => ⟨cs, f, h, rfl⟩) r0 v k3
    exact VR_ren (fun o j e => by simp at e; subst e; exact hlocg o) r0 v h1

/-- A CALL'S CONTRACT OVER A SMALL STORE SERVES OVER EVERY STORE THAT HOLDS IT. -/
theorem callA_frame {P : Program} {f : FuncId} {args : List V} {σ : List Ob} {K : V → List Ob → Prop} (h : callA P f args σ K) (ρ : List Nat) (τ : List Ob) (hn : ρ.Nodup) (hlen : ρ.length = σ.length) (hlt : ∀ i ∈ ρ, i < τ.length)
    (hat : ∀ (j i : Nat), ρ[j]? = some i → τ[i]? = (σ[j]?).map (embO ρ τ.length)) :
    callA P f (embVs ρ τ.length args) τ (fun r τ' => ∃ r0 σ0, K r0 σ0 ∧ r = embV ρ τ.length r0 ∧ τ' = storeBack τ ρ σ0) := by
  refine ⟨h.1, fun c vals hs hv => ?_⟩
  let N := τ.length
  let g := emb ρ N
  let c0 : Cx := frameC c ρ N
  have hgout : ∀ o, ρ.length ≤ o → c.loc (g o) = .unborn := fun o ho => hs.unborn (by show τ.length ≤ emb ρ N o; rw [emb_ge ho]; omega)
  have hown0 : ∀ b, c0.own b → c.own b := by rintro b ⟨o, base, sz, e⟩; exact ⟨g o, base, sz, e⟩
  have hsplit : ∀ b, c.own b → c0.own b ∨ ∃ o base sz, o ∉ ρ ∧ c.loc o = .here b base sz := by
    rintro b ⟨o, base, sz, e⟩
    by_cases ho : o ∈ ρ
    · obtain ⟨j, hj⟩ := List.getElem?_of_mem ho
      exact .inl ⟨j, base, sz, by show c.loc (emb ρ N j) = _; rw [emb_lt hj]; exact e⟩
    · exact .inr ⟨o, base, sz, ho, e⟩
  have hout0 : ∀ b, (∃ o base sz, o ∉ ρ ∧ c.loc o = .here b base sz) → ¬ c0.own b := by
    rintro b ⟨o, base, sz, ho, e⟩ ⟨o', base', sz', e'⟩
    have := hs.inj e e'
    subst this
    by_cases q : o' < ρ.length
    · exact ho (by show emb ρ N o' ∈ ρ; rw [emb_lt (List.getElem?_eq_getElem q)]; exact List.getElem_mem q)
    · have := hgout o' (by omega)
      change c.loc (g o') = _ at e'
      rw [this] at e'; cases e'
  have him : c.im.Le c0.im := by
    intro b hb
    exact ⟨⟨hb.1, fun q => hb.2.1 (hown0 b q), fun q => q.elim hb.2.2 fun ⟨o, base, sz, _, e⟩ => hb.2.1 ⟨o, base, sz, e⟩⟩, fun o => rfl⟩
  have him' : c0.im.Le c.im := by
    intro b hb
    exact ⟨⟨hb.1, fun q => (hsplit b q).elim hb.2.1 fun q' => hb.2.2 (.inr q'), fun q => hb.2.2 (.inl q)⟩, fun o => rfl⟩
  have hS0 : SR c0 σ := by
    refine ⟨fun o => ?_, fun {o o' b base sz base' sz'} e e' => emb_inj hn hlt (hs.inj e e'), fun b hb => ?_, hs.gl.le him⟩
    · show ORo c0 (c.loc (g o)) σ[o]?
      by_cases ho : o < ρ.length
      · have hr := List.getElem?_eq_getElem ho
        have h1 := hat o _ hr
        have hx : σ[o]? = some (σ[o]'(by omega)) := List.getElem?_eq_getElem (by omega)
        rw [hx] at h1 ⊢
        have h2 := hs.get h1
        show OR c0 (c.loc (emb ρ N o)) _
        rw [emb_lt hr]
        exact OR_unren (c := c0) (c' := c) rfl him (g := g) (fun o => rfl) h2
      · rw [List.getElem?_eq_none (by omega)]
        exact hgout o (by omega)
    · rcases hb with hb | hb
      · obtain ⟨h1, h2⟩ := hs.hid b hb
        exact ⟨h1, fun q => h2 (hown0 b q)⟩
      · have hb' := hb
        obtain ⟨o, base, sz, _, e⟩ := hb
        exact ⟨hs.lt e, hout0 b hb'⟩
  have hv0 : c0.vrs args vals := by
    have h1 : VRs c.im c.w c0.loc args vals := VRs_unren (l := c0.loc) (l' := c.loc) (g := g) (fun o => rfl) args vals hv
    exact VRs_mono him (fun o => .inl rfl) (fun b cs e f h => ⟨cs, f, h, rfl⟩) args vals h1
  exact (h.2 c0 vals hS0 hv0).mono fun e w' hp => frame_post hs hn hlen hlt hS0 hp
end Go.Proofs.YtchgfpehcjomeaaGreatDoor.Am
