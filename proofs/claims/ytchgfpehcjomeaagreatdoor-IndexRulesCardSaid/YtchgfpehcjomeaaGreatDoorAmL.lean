/- The engine's code: what a piece of code comes to, and that it does. -/
import Derived.Test.YtchgfpehcjomeaaGreatDoorAmK
set_option linter.unusedSimpArgs false
set_option linter.unusedVariables false
namespace Go.Proofs.YtchgfpehcjomeaaGreatDoor.Am
open Go

/-- A piece of code, from every frame and world that fit. -/
def WP (P : Program) (n : Nat) (code : Code) (s : List V) (σ : List Ob) (K : Ex → List V → List Ob → Prop) : Prop :=
  ∀ (c : Cx) (a : Act), Rel P c s σ a → code.wp P (Post P n c K) a c.w

theorem WP_mono {P : Program} {n : Nat} {code : Code} {s : List V} {σ : List Ob} {K K' : Ex → List V → List Ob → Prop} (h : WP P n code s σ K) (hk : ∀ e s σ, K e s σ → K' e s σ) : WP P n code s σ K' :=
  fun c a hr => wp_mono (h c a hr) fun e a' w' hp => by
    rcases hp with hp | ⟨x, loc', s', σ', h1, h2, h3, h4⟩
    · exact .inl hp
    · exact .inr ⟨x, loc', s', σ', h1, h2, h3, hk _ _ _ h4⟩

def seqK (k : List V → List Ob → Prop) (K : Ex → List V → List Ob → Prop) : Ex → List V → List Ob → Prop
  | .normal, s, σ => k s σ
  | e, s, σ => K e s σ

def blockK (id : Nat) (K : Ex → List V → List Ob → Prop) : Ex → List V → List Ob → Prop
  | .exit j, s, σ => if j = id then K .normal s σ else K (.exit j) s σ
  | e, s, σ => K e s σ

theorem WP_seq {P : Program} {n : Nat} {x y : Code} {s : List V} {σ : List Ob} {K : Ex → List V → List Ob → Prop} (h : WP P n x s σ (seqK (fun s σ => WP P n y s σ K) K)) : WP P n (.seq x y) s σ K := by
  intro c a hr
  refine wp_seq (wp_mono (h c a hr) fun e a' w' hp => ?_)
  rcases hp with hp | ⟨x, loc', s', σ', h1, h2, h3, h4⟩
  · exact hp.elim
  · cases e <;> simp only [exOf] at h1 <;> (try (cases h1; done)) <;> simp only [Option.some.injEq] at h1 <;> subst h1
    · exact wp_mono (h4 ⟨w', loc', c.hid⟩ a' h2) fun e a'' w'' hp => Post.back h3 rfl hp
    · exact .inr ⟨_, loc', s', σ', rfl, h2, h3, h4⟩
    · exact .inr ⟨_, loc', s', σ', rfl, h2, h3, h4⟩

theorem WP_block {P : Program} {n : Nat} {id : Nat} {x : Code} {s : List V} {σ : List Ob} {K : Ex → List V → List Ob → Prop} (h : WP P n x s σ (blockK id K)) : WP P n (.block id x) s σ K := by
  intro c a hr
  refine wp_block (wp_mono (h c a hr) fun e a' w' hp => ?_)
  rcases hp with hp | ⟨x, loc', s', σ', h1, h2, h3, h4⟩
  · exact hp.elim
  · cases e <;> simp only [exOf] at h1 <;> (try (cases h1; done)) <;> simp only [Option.some.injEq] at h1 <;> subst h1
    · exact .inr ⟨_, loc', s', σ', rfl, h2, h3, h4⟩
    · rename_i j
      simp only [blockK] at h4
      simp only [Exit.inBlock]
      split at h4
      · rename_i e; rw [if_pos e]; exact .inr ⟨_, loc', s', σ', rfl, h2, h3, h4⟩
      · rename_i e; rw [if_neg e]; exact .inr ⟨_, loc', s', σ', rfl, h2, h3, h4⟩
    · exact .inr ⟨_, loc', s', σ', rfl, h2, h3, h4⟩

theorem WP_region {P : Program} {n : Nat} {id : Nat} {ops : Array Oper} {s : List V} {σ : List Ob} {K : Ex → List V → List Ob → Prop} (h : opsA P ops.toList ops.toList s σ (K .normal)) : WP P n (.region id ops false) s σ K := by
  intro c a hr
  refine wp_region ?_
  rw [List.range_eq_range']
  have := ops_sound (P := P) (ops := ops) ops.toList 0 s σ (K .normal) rfl h c a hr (Post P n c K) (fun s' σ' loc' a' w' h1 h2 h3 => .inr ⟨.normal, loc', s', σ', rfl, h2, h3.toN n, h1⟩)
  simpa using this

theorem WP_cond {P : Program} {n : Nat} {x : Operand} {y z : Code} {s : List V} {σ : List Ob} {K : Ex → List V → List Ob → Prop} {b : Bool} (hb : get s x = .d (.bool b)) (h1 : b = true → WP P n y s σ K) (h2 : b = false → WP P n z s σ K) : WP P n (.cond x y z) s σ K := by
  intro c a hr
  have hv := vr_get hr.sr.gl hr.sl x
  rw [hb] at hv
  simp only [Cx.vr, VR, DR] at hv
  exact wp_cond_split hv (fun e => h1 e c a hr) (fun e => h2 e c a hr)

/-- THE CODE'S OWN WEAKEST CONDITION; at a loop it stops. -/
def wpA (P : Program) (n : Nat) : Code → List V → List Ob → (Ex → List V → List Ob → Prop) → Prop
  | .skip, s, σ, K => K .normal s σ
  | .label _, s, σ, K => K .normal s σ
  | .region _ ops false, s, σ, K => opsA P ops.toList ops.toList s σ (K .normal)
  | .region id ops true, s, σ, K => WP P n (.region id ops true) s σ K
  | .seq x y, s, σ, K => wpA P n x s σ (seqK (fun s σ => wpA P n y s σ K) K)
  | .cond x y z, s, σ, K => match get s x with
    | .d (.bool b) => (b = true → wpA P n y s σ K) ∧ (b = false → wpA P n z s σ K)
    | _ => False
  | .block id x, s, σ, K => wpA P n x s σ (blockK id K)
  | .loop x, s, σ, K => WP P n (.loop x) s σ K
  | .exit id, s, σ, K => K (.exit id) s σ
  | .ret, s, σ, K => K .ret s σ
  | _, _, _, _ => False

theorem stepA_mono {P : Program} {o : Oper} {s : List V} {σ : List Ob} {K K' : V → List Ob → Prop} (h : stepA P o s σ K) (hk : ∀ r σ', K r σ' → K' r σ') : stepA P o s σ K' := by
  unfold stepA at h ⊢
  split at h
  · split at h
    · exact callA_mono h hk
    · exact callA_mono h hk
    · exact h.elim
  · split at h
    · exact hk _ _ h
    · split at h
      · exact hk _ _ h
      · exact nilA_mono hk h

theorem stepL_mono {P : Program} {o : Oper} {s : List V} {σ : List Ob} {K K' : V → List Ob → Prop} (h : stepL P o s σ K) (hk : ∀ r σ', K r σ' → K' r σ') : stepL P o s σ K' := by
  rcases h with h | ⟨r, h1, h2⟩ | ⟨cl, h1, h2, h3⟩
  · exact .inl (stepA_mono h hk)
  · exact .inr (.inl ⟨r, h1, hk _ _ h2⟩)
  · exact .inr (.inr ⟨cl, h1, h2, hk _ _ h3⟩)

theorem opsA_mono {P : Program} {all : List Oper} : ∀ (l : List Oper) (s : List V) (σ : List Ob) (K K' : List V → List Ob → Prop), opsA P all l s σ K → (∀ s σ, K s σ → K' s σ) → opsA P all l s σ K'
  | [], s, σ, K, K', h, hk => hk _ _ h
  | o :: r, s, σ, K, K', h, hk => by
    unfold opsA at h ⊢
    split at h
    · exact stepL_mono h fun v σ' hh => opsA_mono r _ _ K K' hh hk
    · split at h
      · split at h
        · exact ⟨fun e => stepL_mono (h.1 e) fun v σ' hh => opsA_mono r _ _ K K' hh hk, fun e => opsA_mono r _ _ K K' (h.2 e) hk⟩
        · exact opsA_mono r _ _ K K' h hk
        · exact h.elim
      · exact h.elim

theorem wpA_mono {P : Program} {n : Nat} : ∀ (code : Code) (s : List V) (σ : List Ob) (K K' : Ex → List V → List Ob → Prop), wpA P n code s σ K → (∀ e s σ, K e s σ → K' e s σ) → wpA P n code s σ K'
  | .skip, s, σ, K, K', h, hk => hk _ _ _ h
  | .label _, s, σ, K, K', h, hk => hk _ _ _ h
  | .region _ ops false, s, σ, K, K', h, hk => opsA_mono _ s σ _ _ h (hk .normal)
  | .region id ops true, s, σ, K, K', h, hk => WP_mono h hk
  | .seq x y, s, σ, K, K', h, hk => wpA_mono x s σ _ _ h fun e s σ hh => by
      cases e <;> simp only [seqK] at * <;> first | exact wpA_mono y s σ K K' hh hk | exact hk _ _ _ hh
  | .cond x y z, s, σ, K, K', h, hk => by
    simp only [wpA] at h ⊢
    split at h
    · exact ⟨fun e => wpA_mono y s σ K K' (h.1 e) hk, fun e => wpA_mono z s σ K K' (h.2 e) hk⟩
    · exact h.elim
  | .block id x, s, σ, K, K', h, hk => wpA_mono x s σ _ _ h fun e s σ hh => by
      cases e <;> simp only [blockK] at * <;> first | (split at hh <;> simp_all; done) | exact hk _ _ _ hh
  | .loop x, s, σ, K, K', h, hk => WP_mono h hk
  | .exit id, s, σ, K, K', h, hk => hk _ _ _ h
  | .ret, s, σ, K, K', h, hk => hk _ _ _ h
  | .rangeFunc .., _, _, _, _, h, _ => h.elim
  | .scope _, _, _, _, _, h, _ => h.elim
  | .goto _, _, _, _, _, h, _ => h.elim
  | .refuse _, _, _, _, _, h, _ => h.elim

theorem wpA_sound {P : Program} {n : Nat} : ∀ (code : Code) (s : List V) (σ : List Ob) (K : Ex → List V → List Ob → Prop), wpA P n code s σ K → WP P n code s σ K
  | .skip, s, σ, K, h => fun c a hr => wp_skip (.inr ⟨.normal, c.loc, s, σ, rfl, hr, ExtN.refl n c, h⟩)
  | .label _, s, σ, K, h => fun c a hr => wp_label (.inr ⟨.normal, c.loc, s, σ, rfl, hr, ExtN.refl n c, h⟩)
  | .region _ ops false, s, σ, K, h => WP_region h
  | .region id ops true, s, σ, K, h => h
  | .seq x y, s, σ, K, h => WP_seq (wpA_sound x s σ _ (by
      have h' : wpA P n x s σ (seqK (fun s σ => wpA P n y s σ K) K) := h
      have e : ∀ (k k' : List V → List Ob → Prop), (∀ s σ, k s σ → k' s σ) → ∀ e s σ, seqK k K e s σ → seqK k' K e s σ := by
        intro k k' hk e s σ hh; cases e <;> simp only [seqK] at * <;> first | exact hk _ _ hh | exact hh
      exact wpA_mono x s σ _ _ h' (e _ _ fun s σ => wpA_sound y s σ K)))
  | .cond x y z, s, σ, K, h => by
    simp only [wpA] at h
    split at h
    · rename_i b hb
      exact WP_cond hb (fun e => wpA_sound y s σ K (h.1 e)) (fun e => wpA_sound z s σ K (h.2 e))
    · exact h.elim
  | .block id x, s, σ, K, h => WP_block (wpA_sound x s σ _ h)
  | .loop x, s, σ, K, h => h
  | .exit id, s, σ, K, h => fun c a hr => wp_exit (.inr ⟨.exit id, c.loc, s, σ, rfl, hr, ExtN.refl n c, h⟩)
  | .ret, s, σ, K, h => fun c a hr => wp_ret (.inr ⟨.ret, c.loc, s, σ, rfl, hr, ExtN.refl n c, h⟩)
  | .rangeFunc .., _, _, _, h => h.elim
  | .scope _, _, _, _, h => h.elim
  | .goto _, _, _, _, h => h.elim
  | .refuse _, _, _, _, h => h.elim
end Go.Proofs.YtchgfpehcjomeaaGreatDoor.Am
