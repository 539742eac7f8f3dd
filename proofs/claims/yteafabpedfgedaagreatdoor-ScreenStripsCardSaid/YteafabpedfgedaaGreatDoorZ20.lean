/- Quotients of unsigned numbers by the two moduli of the group: the walk of Div64 (printed by genD.py). -/
import Derived.Test.YteafabpedfgedaaGreatDoorZ19
set_option linter.unusedSimpArgs false
set_option linter.unusedVariables false
set_option maxRecDepth 10000
set_option maxHeartbeats 20000000
namespace Go.Proofs.YteafabpedfgedaaGreatDoor.Am
open Go Go.Proofs

theorem WP_post {P : Program} {n : Nat} {code : Code} {s : List V} {σ : List Ob} {K K' : Ex → List V → List Ob → Prop} (h : WP P n code s σ K) (hk : ∀ e s σ, K e s σ → ∃ s2 σ2, Weak n s σ s2 σ2 ∧ K' e s2 σ2) : WP P n code s σ K' :=
  fun c a hr => wp_mono (h c a hr) fun e a' w' hp => by
    rcases hp with hp | ⟨x, loc', s', σ', h1, h2, h3, h4⟩
    · exact .inl hp
    · obtain ⟨s2, σ2, hw, h5⟩ := hk _ _ _ h4
      obtain ⟨l'', k1, k2, k3⟩ := hw ⟨w', loc', c.hid⟩ a'.tmps.toList h2.sr h2.sl
      exact .inr ⟨x, l'', s2, σ2, h1, ⟨k1, k2, h2.df⟩, h3.trans k3, h5⟩

/-- A loop has come to its one way out, with these slots. -/
def ExitK {β : Type} (id : Nat) (keep' : List Nat) (S' : β → List V) (T' : β → List Ob) (J : β → Prop) : Ex → List V → List Ob → Prop := fun e s σ => e = .exit id ∧ ∃ y, J y ∧ keepS keep' 0 s = S' y ∧ σ = T' y
/-- A loop all of whose ways out lead to one place: what comes after is told once. -/
theorem Loop_kx {P : Program} {n : Nat} {body : CCode} {kk : List Fr} {s : List V} {σ : List Ob} {K : Ex → List V → List Ob → Prop} {α β : Type} (keep : List Nat) (S : α → List V) (T : α → List Ob) (I : α → Prop) (μ : α → Nat) (x : α) (hs : keepS keep 0 s = S x) (hσ : σ = T x) (hx : I x)
    (id : Nat) (keep' : List Nat) (S' : β → List V) (T' : β → List Ob) (J : β → Prop)
    (round : ∀ x, I x → Go P n body [] (S x) (T x) (seqK (fun s' σ' => ∃ y, I y ∧ μ y < μ x ∧ keepS keep 0 s' = S y ∧ σ' = T y) (ExitK id keep' S' T' J)))
    (after : ∀ y, J y → Pop P n kk (.exit id) (S' y) (T' y) K) : LoopG P n body kk s σ K := by
  have h : LoopG P n body [] s σ (ExitK id keep' S' T' J) := Loop_k keep S T I μ x hs hσ hx round
  intro plans code h1 h2 h3
  refine WP_post (h plans code h1 h2 h3) fun e s σ hk => ?_
  obtain ⟨rfl, y, hy, e1, rfl⟩ := hk
  exact ⟨S' y, T' y, e1 ▸ Weak.slots (keepS_le keep' s 0), after y hy⟩
theorem exit_k {β : Type} {id : Nat} {keep' : List Nat} {S' : β → List V} {T' : β → List Ob} {J : β → Prop} {s : List V} {σ : List Ob} (y : β) (h1 : J y) (h2 : keepS keep' 0 s = S' y) (h3 : σ = T' y) : ExitK id keep' S' T' J (.exit id) s σ := ⟨rfl, y, h1, h2, h3⟩

theorem or8 (a b : Nat) (h : b < 8) : a * 8 ||| b = a * 8 + b := by
  have := Nat.shiftLeft_add_eq_or_of_lt (i := 3) (b := b) (by simpa using h) a
  rw [Nat.shiftLeft_eq] at this
  exact this.symm

/-- One digit of a long quotient: the guess, and when it is right. -/
theorem digit (M y d D un u q r Q R : Nat) (hD : D = y * M + d) (hd : d ≤ M) (hun : un < D) (hu : u < M) (hQ : un * M + u = Q * D + R) (hR : R < D) (h1 : q * y + r = un) (h2 : Q ≤ q) (h3 : q ≤ M) :
    (q * d ≤ M * r + u → q = Q) ∧ ((M ≤ q ∨ M * r + u < q * d) → Q + 1 ≤ q) ∧ ((M ≤ q ∨ M * r + u < q * d) → M ≤ r + y → q = Q + 1) := by
  have e1 : q * D = q * y * M + q * d := by rw [hD, Nat.mul_add, Nat.mul_assoc]
  have e2 : un * M = q * y * M + r * M := by rw [← h1, Nat.add_mul]
  have e3 : r * M = M * r := Nat.mul_comm _ _
  have up : ∀ k, k * D ≤ un * M + u → k ≤ Q := by
    intro k hk
    have : k * D < (Q + 1) * D := by rw [Nat.add_mul]; omega
    exact Nat.le_of_lt_succ (Nat.lt_of_mul_lt_mul_right this)
  have c2 : (M ≤ q ∨ M * r + u < q * d) → Q + 1 ≤ q := by
    rintro (a | a)
    · have h4 : (un + 1) * M ≤ D * M := Nat.mul_le_mul_right _ hun
      rw [Nat.add_mul, Nat.one_mul] at h4
      have h5 : Q * D < M * D := by rw [Nat.mul_comm M D]; omega
      have := Nat.lt_of_mul_lt_mul_right h5
      omega
    · have h5 : Q * D < q * D := by omega
      exact Nat.lt_of_mul_lt_mul_right h5
  refine ⟨fun a => ?_, c2, fun a b => ?_⟩
  · have := up q (by omega)
    omega
  · have h6 := c2 a
    obtain ⟨k, rfl⟩ : ∃ k, q = k + 1 := ⟨q - 1, by omega⟩
    have h7 : (k + 1) * D = k * D + D := by rw [Nat.add_mul, Nat.one_mul]
    have h8 : (k + 1) * d = k * d + d := by rw [Nat.add_mul, Nat.one_mul]
    have h9 : k * d ≤ M * M := Nat.mul_le_mul (by omega) hd
    have h10 : M * M ≤ (r + y) * M := Nat.mul_le_mul_right _ b
    rw [Nat.add_mul] at h10
    have := up k (by omega)
    omega

theorem digit0 (M y d D un u Q R : Nat) (hD : D = y * M + d) (hu : u < M) (hy : 0 < y) (hQ : un * M + u = Q * D + R) : Q ≤ un / y := by
  rw [Nat.le_div_iff_mul_le hy]
  have e1 : Q * D = Q * y * M + Q * d := by rw [hD, Nat.mul_add, Nat.mul_assoc]
  have h : Q * y * M < (un + 1) * M := by rw [Nat.add_mul]; omega
  exact Nat.le_of_lt_succ (Nat.lt_of_mul_lt_mul_right h)
theorem with_eq {α : Type} {C : Prop} (a : α) (h : ∀ b, b = a → C) : C := h a rfl
theorem z_law1 (Z hi lo h8 l v un M : Nat) (hZ : Z = hi * M + lo) (h1 : h8 = hi * 8) (h2 : lo * 8 = l * M + v) (h3 : un = h8 + l) : 8 * Z = un * M + v := by
  have e1 : 8 * (hi * M) = hi * 8 * M := by rw [← Nat.mul_assoc, Nat.mul_comm 8 hi]
  rw [hZ, h3, h1, Nat.mul_add, Nat.add_mul, e1]
  omega
theorem z_law2 (Z un v u1 u0 Q Q2 R R2 D M N : Nat) (hN : N = M * M) (h1 : 8 * Z = un * N + v) (h2 : v = u1 * M + u0) (hQ : un * M + u1 = Q * D + R) (hQ2 : R * M + u0 = Q2 * D + R2) : 8 * Z = (Q * M + Q2) * D + R2 := by
  have e1 : un * N = un * M * M := by rw [hN, Nat.mul_assoc]
  have e2 : (un * M + u1) * M = (Q * D + R) * M := by rw [hQ]
  rw [Nat.add_mul, Nat.add_mul] at e2
  have e3 : Q * D * M = Q * M * D := Nat.mul_right_comm _ _ _
  rw [Nat.add_mul]
  omega
theorem z_law3 (Z W D Y R2 : Nat) (hD : D = 8 * Y) (h : 8 * Z = W * D + R2) (hR : R2 < D) : Z % Y = R2 / 8 := by
  have e1 : W * D = 8 * (W * Y) := by rw [hD, ← Nat.mul_assoc, Nat.mul_comm W 8, Nat.mul_assoc]
  have e2 : Z = R2 / 8 + Y * W := by rw [Nat.mul_comm Y W]; omega
  rw [e2, Nat.add_mul_mod_self_left, Nat.mod_eq_of_lt (by omega)]

/-- What holds while a digit is looked for. -/
def DInv (un Q q r : Nat) : Prop := q * 4294967295 + r = un ∧ Q ≤ q ∧ q ≤ 4294967296 ∧ r < 4294967296

section
variable (t : TypeId) (σ : List Ob)
theorem o_shl3 (a b : Nat) (h : b = a * 8 % 18446744073709551616) : binF Tryz.prog .shl t σ (.d (.int .u64 a)) (.d (.int .u64 3)) = some (.d (.int .u64 b)) := by subst h; exact u64_shl a .u64 3 (by omega)
theorem o_shr3' (a b : Nat) (h : b = a / 8) : binF Tryz.prog .shr t σ (.d (.int .u64 a)) (.d (.int .u64 3)) = some (.d (.int .u64 b)) := by subst h; exact u64_shr a .u64 3 (by omega)
theorem o_shr61 (a b : Nat) (h : b = a / 2305843009213693952) : binF Tryz.prog .shr t σ (.d (.int .u64 a)) (.d (.int .u64 61)) = some (.d (.int .u64 b)) := by subst h; exact u64_shr a .u64 61 (by omega)
theorem o_or8 (a b c h8 : Nat) (ha : a = h8 * 8) (hb : b < 8) (hc : c = a + b) (hl : c < 18446744073709551616) : binF Tryz.prog .or t σ (.d (.int .u64 a)) (.d (.int .u64 b)) = some (.d (.int .u64 c)) := by
  rw [u64_or, ha, or8 _ _ hb, ← ha, ← hc, Nat.mod_eq_of_lt hl]
theorem o_quo1 (a b : Nat) (h : b = a / 4294967295) (hl : a < 18446744073709551616) : binF Tryz.prog .quo t σ (.d (.int .u64 a)) (.d (.int .u64 4294967295)) = some (.d (.int .u64 b)) := by subst h; exact u64_quo a 4294967295 (by omega) hl
end
theorem w_mul (a b p : Nat) (h : p = a * b) (hl : p < 18446744073709551616) : IntKind.u64.wrap ((a : Int) * (b : Int)) = ((p : Nat) : Int) := by rw [w64_mul, ← h, Nat.mod_eq_of_lt hl]
theorem w_mulm (a b p : Nat) (h : p = a * b % 18446744073709551616) : IntKind.u64.wrap ((a : Int) * (b : Int)) = ((p : Nat) : Int) := by rw [w64_mul, ← h]
theorem w_plus (a b p : Nat) (h : p = a + b) (hl : p < 18446744073709551616) : IntKind.u64.wrap ((a : Int) + (b : Int)) = ((p : Nat) : Int) := by rw [w64_add, ← h, Nat.mod_eq_of_lt hl]
theorem w_plusm (a b p : Nat) (h : p = (a + b) % 18446744073709551616) : IntKind.u64.wrap ((a : Int) + (b : Int)) = ((p : Nat) : Int) := by rw [w64_add, ← h]
theorem w_sub (a b p : Nat) (h : a = b + p) (hl : a < 18446744073709551616) : IntKind.u64.wrap ((a : Int) - (b : Int)) = ((p : Nat) : Int) := by
  rw [w64_sub a b (by omega)]; congr 1; omega
theorem w_subm (a b p : Nat) (hb : b ≤ 18446744073709551616) (h : p = (a + 18446744073709551616 - b) % 18446744073709551616) : IntKind.u64.wrap ((a : Int) - (b : Int)) = ((p : Nat) : Int) := by rw [w64_sub a b hb, ← h]

theorem sub_law (A u B R : Nat) (h : A + u = B + R) (hR : R < 18446744073709551616) : ((A % 18446744073709551616 + u) % 18446744073709551616 + 18446744073709551616 - B % 18446744073709551616) % 18446744073709551616 = R := by omega

/-! ### the modulus 2305843009213693951 -/
theorem lz_P (τ : List Ob) : callA Tryz.prog 400 [.d (.int .u64 2305843009213693951)] τ fun r σ' => r = .d (.int .i64 3) ∧ σ' = τ := run_val tabOk 9 (by kernel_rfl) τ rfl

theorem dq_P (lo : Nat) (h1 : lo < 18446744073709551616) (t : TypeId) (σ : List Ob) : binF Tryz.prog .quo t σ (.d (.int .u64 lo)) (.d (.int .u64 2305843009213693951)) = some (.d (.int .u64 (lo / 2305843009213693951 : Nat))) := u64_quo lo 2305843009213693951 (by omega) h1
theorem dr_P (lo : Nat) (t : TypeId) (σ : List Ob) : binF Tryz.prog .rem t σ (.d (.int .u64 lo)) (.d (.int .u64 2305843009213693951)) = some (.d (.int .u64 (lo % 2305843009213693951 : Nat))) := u64_rem lo 2305843009213693951 (by omega)
theorem div64_P (hi lo Z : Nat) (h0 : hi < 2305843009213693951) (h1 : lo < 18446744073709551616) (hZ : Z = hi * 18446744073709551616 + lo) : callA Tryz.prog 361 [.d (.int .u64 hi), .d (.int .u64 lo), .d (.int .u64 2305843009213693951)] [] fun r σ' => (∃ q : Int, r = .tup [.d (.int .u64 q), .d (.int .u64 (Z % 2305843009213693951 : Nat))]) ∧ σ' = [] := by
  obtain ⟨h8, hh8⟩ : ∃ h8, h8 = hi * 8 % 18446744073709551616 := ⟨_, rfl⟩
  have hh8' : h8 = hi * 8 := by omega
  obtain ⟨l61, hl61⟩ : ∃ l61, l61 = lo / 2305843009213693952 := ⟨_, rfl⟩
  obtain ⟨un, hun⟩ : ∃ un, un = h8 + l61 := ⟨_, rfl⟩
  have hunD : un < 18446744073709551608 := by omega
  obtain ⟨v, hv⟩ : ∃ v, v = lo * 8 % 18446744073709551616 := ⟨_, rfl⟩
  obtain ⟨u1, hu1⟩ : ∃ u1, u1 = v / 4294967296 := ⟨_, rfl⟩
  obtain ⟨u0, hu0⟩ : ∃ u0, u0 = v % 4294967296 := ⟨_, rfl⟩
  obtain ⟨q0, hq0⟩ : ∃ q0, q0 = un / 4294967295 := ⟨_, rfl⟩
  obtain ⟨r0, hr0⟩ : ∃ r0, r0 = un % 4294967295 := ⟨_, rfl⟩
  obtain ⟨p0, hp0⟩ : ∃ p0, p0 = q0 * 4294967295 := ⟨_, rfl⟩
  obtain ⟨Q, R, hQ, hR⟩ : ∃ Q R, un * 4294967296 + u1 = Q * 18446744073709551608 + R ∧ R < 18446744073709551608 := ⟨_, _, (Nat.div_add_mod' (un * 4294967296 + u1) 18446744073709551608).symm, Nat.mod_lt _ (by omega)⟩
  obtain ⟨a1, ha1⟩ : ∃ a1, a1 = un * 4294967296 % 18446744073709551616 := ⟨_, rfl⟩
  obtain ⟨a2, ha2⟩ : ∃ a2, a2 = (a1 + u1) % 18446744073709551616 := ⟨_, rfl⟩
  obtain ⟨a3, ha3⟩ : ∃ a3, a3 = Q * 18446744073709551608 % 18446744073709551616 := ⟨_, rfl⟩
  have ha4 : R = (a2 + 18446744073709551616 - a3) % 18446744073709551616 := by
    rw [ha2, ha1, ha3]; exact (sub_law (un * 4294967296) u1 (Q * 18446744073709551608) R hQ (by omega)).symm
  obtain ⟨q20, hq20⟩ : ∃ q20, q20 = R / 4294967295 := ⟨_, rfl⟩
  obtain ⟨r20, hr20⟩ : ∃ r20, r20 = R % 4294967295 := ⟨_, rfl⟩
  obtain ⟨p20, hp20⟩ : ∃ p20, p20 = q20 * 4294967295 := ⟨_, rfl⟩
  obtain ⟨Q2, R2, hQ2, hR2⟩ : ∃ Q2 R2, R * 4294967296 + u0 = Q2 * 18446744073709551608 + R2 ∧ R2 < 18446744073709551608 := ⟨_, _, (Nat.div_add_mod' (R * 4294967296 + u0) 18446744073709551608).symm, Nat.mod_lt _ (by omega)⟩
  have hQ3 := digit0 4294967296 4294967295 4294967288 18446744073709551608 R u0 Q2 R2 rfl (by omega) (by omega) hQ2
  have hz0 : lo * 8 = l61 * 18446744073709551616 + v := by rw [hv, hl61]; clear hZ hQ hQ2; omega
  have hz1 := z_law1 Z hi lo h8 l61 v un 18446744073709551616 hZ hh8' hz0 hun
  have hz2 : v = u1 * 4294967296 + u0 := by omega
  have hz3 := z_law2 Z un v u1 u0 Q Q2 R R2 18446744073709551608 4294967296 18446744073709551616 rfl hz1 hz2 hQ hQ2
  have hfin := z_law3 Z (Q * 4294967296 + Q2) 18446744073709551608 2305843009213693951 R2 rfl hz3 hR2
  clear hz0 hz1 hz3
  obtain ⟨R8, hR8⟩ : ∃ R8, R8 = R2 / 8 := ⟨_, rfl⟩
  rw [← hR8] at hfin
  obtain ⟨b1, hb1⟩ : ∃ b1, b1 = Q * 4294967296 % 18446744073709551616 := ⟨_, rfl⟩
  obtain ⟨b2, hb2⟩ : ∃ b2, b2 = (b1 + Q2) % 18446744073709551616 := ⟨_, rfl⟩
  obtain ⟨c1', hc1⟩ : ∃ c1', c1' = R * 4294967296 % 18446744073709551616 := ⟨_, rfl⟩
  obtain ⟨c2, hc2⟩ : ∃ c2, c2 = (c1' + u0) % 18446744073709551616 := ⟨_, rfl⟩
  obtain ⟨c3, hc3⟩ : ∃ c3, c3 = Q2 * 18446744073709551608 % 18446744073709551616 := ⟨_, rfl⟩
  have hc4 : R2 = (c2 + 18446744073709551616 - c3) % 18446744073709551616 := by
    rw [hc2, hc1, hc3]; exact (sub_law (R * 4294967296) u0 (Q2 * 18446744073709551608) R2 hQ2 (by omega)).symm
  have y1 : IntKind.u64.wrap ((Q : Int) * 4294967296) = ((b1 : Nat) : Int) := w_mulm Q 4294967296 b1 hb1
  have y2 : IntKind.u64.wrap ((b1 : Int) + (Q2 : Int)) = ((b2 : Nat) : Int) := w_plusm b1 Q2 b2 hb2
  have y3 : IntKind.u64.wrap ((R : Int) * 4294967296) = ((c1' : Nat) : Int) := w_mulm R 4294967296 c1' hc1
  have y4 : IntKind.u64.wrap ((c1' : Int) + (u0 : Int)) = ((c2 : Nat) : Int) := w_plusm c1' u0 c2 hc2
  have y5 : IntKind.u64.wrap ((Q2 : Int) * 18446744073709551608) = ((c3 : Nat) : Int) := w_mulm Q2 18446744073709551608 c3 hc3
  have y6 : IntKind.u64.wrap ((c2 : Int) - (c3 : Int)) = ((R2 : Nat) : Int) := w_subm c2 c3 R2 (by omega) hc4
  have y7 := fun t σ => o_shr3' t σ R2 R8 hR8
  have hI2a : q20 * 4294967295 + r20 = R := by rw [hq20, hr20]; exact Nat.div_add_mod' R 4294967295
  have hI2b : Q2 ≤ q20 := by omega
  have hI2c : q20 ≤ 4294967296 := by omega
  have hI2d : r20 < 4294967296 := by omega
  have hI20 : DInv R Q2 q20 r20 := ⟨hI2a, hI2b, hI2c, hI2d⟩
  have x1 : IntKind.u64.wrap ((un : Int) * 4294967296) = ((a1 : Nat) : Int) := w_mulm un 4294967296 a1 ha1
  have x2 : IntKind.u64.wrap ((a1 : Int) + (u1 : Int)) = ((a2 : Nat) : Int) := w_plusm a1 u1 a2 ha2
  have x3 : IntKind.u64.wrap ((Q : Int) * 18446744073709551608) = ((a3 : Nat) : Int) := w_mulm Q 18446744073709551608 a3 ha3
  have x4 : IntKind.u64.wrap ((a2 : Int) - (a3 : Int)) = ((R : Nat) : Int) := w_subm a2 a3 R (by omega) ha4
  have x5 := fun t σ => o_quo1 t σ R q20 hq20 (by omega)
  have x6 : IntKind.u64.wrap ((q20 : Int) * 4294967295) = ((p20 : Nat) : Int) := w_mul q20 4294967295 p20 hp20 (by omega)
  have x7 : IntKind.u64.wrap ((R : Int) - (p20 : Int)) = ((r20 : Nat) : Int) := w_sub R p20 r20 (by omega) (by omega)
  have hQ1 := digit0 4294967296 4294967295 4294967288 18446744073709551608 un u1 Q R rfl (by omega) (by omega) hQ
  have hQ0 : Q ≤ q0 := by omega
  have hI0a : q0 * 4294967295 + r0 = un := by rw [hq0, hr0]; exact Nat.div_add_mod' un 4294967295
  have hI0c : q0 ≤ 4294967296 := by omega
  have hI0d : r0 < 4294967296 := by omega
  have hI0 : DInv un Q q0 r0 := ⟨hI0a, hQ0, hI0c, hI0d⟩
  refine w361.go fun K hK => ?_
  have e0 : ((2305843009213693951 : Int) == 0) = false := rfl
  have e1 : decide ((2305843009213693951 : Int) ≤ (hi : Int)) = false := by simpa using (by omega : (hi : Int) < 2305843009213693951)
  simp only [e361, c361, p361, Tryz.f361, codeOf, comp, opsOf, stOf, cop, cstp, copAt, planFor, List.find?, List.find?_nil, Option.map_none, Option.getD_none, List.any_cons, List.any_nil, Stp.idx, Bool.or_false, Nat.reduceBEq, ↓RP, RS, Int.reduceBEq, Int.reduceBNe, Int.reduceLT, Int.reduceLE, Int.reduceAdd, Int.reduceSub, ↓reduceIte, Nat.reduceAdd, Nat.reduceMul, Nat.reduceSub, Nat.reduceLT, Nat.reduceLeDiff, Nat.reduceEqDiff, decide_true, decide_false, fieldAddrF, undE, tupE, e0, e1]
  by_cases hz : hi = 0
  · have e2 : ((hi : Int) == 0) = true := by simpa using hz
    simp only [↓RP, RS, Int.reduceBEq, Int.reduceBNe, Int.reduceLT, Int.reduceLE, Int.reduceAdd, Int.reduceSub, ↓reduceIte, Nat.reduceAdd, Nat.reduceMul, Nat.reduceSub, Nat.reduceLT, Nat.reduceLeDiff, Nat.reduceEqDiff, decide_true, decide_false, fieldAddrF, undE, tupE, e2, dq_P lo h1, dr_P]
    have hr : Z = lo := by rw [hZ, hz, Nat.zero_mul, Nat.zero_add]
    refine hK.fin (r := .tup [.d (.int .u64 (lo / 2305843009213693951 : Nat)), .d (.int .u64 (lo % 2305843009213693951 : Nat))]) ?_ (Fin.none0 _ _ rfl) ⟨⟨_, by rw [hr]⟩, rfl⟩
    simp only [e361, resF, resAll, resOne, List.getD_cons_zero, List.getD_cons_succ]
  · have e2 : ((hi : Int) == 0) = false := by simpa using hz
    simp only [↓RP, RS, Int.reduceBEq, Int.reduceBNe, Int.reduceLT, Int.reduceLE, Int.reduceAdd, Int.reduceSub, ↓reduceIte, Nat.reduceAdd, Nat.reduceMul, Nat.reduceSub, Nat.reduceLT, Nat.reduceLeDiff, Nat.reduceEqDiff, decide_true, decide_false, fieldAddrF, undE, tupE, e2]
    refine CallK_use' (lz_P []) ?_
    rintro r σ' ⟨rfl, rfl⟩
    have c1 : ∀ σ, cvF Tryz.prog 3 119 σ (.d (.int .i64 3)) = some (.d (.int .u64 3), σ) := fun σ => by kernel_rfl
    have s1 : ∀ t σ, binF Tryz.prog .shl t σ (.d (.int .u64 2305843009213693951)) (.d (.int .u64 3)) = some (.d (.int .u64 18446744073709551608)) := fun t σ => by kernel_rfl
    have s2 : ∀ t σ, binF Tryz.prog .shr t σ (.d (.int .u64 18446744073709551608)) (.d (.int .u64 32)) = some (.d (.int .u64 4294967295)) := fun t σ => by kernel_rfl
    have s3 : ∀ t σ, binF Tryz.prog .and t σ (.d (.int .u64 18446744073709551608)) (.d (.int .u64 4294967295)) = some (.d (.int .u64 4294967288)) := fun t σ => by kernel_rfl
    have s5 : IntKind.u64.wrap 61 = 61 := rfl
    have s4 := fun t σ => o_shl3 t σ hi h8 hh8
    have s6 := fun t σ => o_shr61 t σ lo l61 hl61
    have s7 := fun t σ => o_or8 t σ h8 l61 un hi hh8' (by omega) hun (by omega)
    have s8 := fun t σ => o_shl3 t σ lo v hv
    have s9 : ∀ t σ, binF Tryz.prog .shr t σ (.d (.int .u64 v)) (.d (.int .u64 32)) = some (.d (.int .u64 u1)) := fun t σ => by rw [hu1]; exact o_s32 t σ v
    have s10 : ∀ t σ, binF Tryz.prog .and t σ (.d (.int .u64 v)) (.d (.int .u64 4294967295)) = some (.d (.int .u64 u0)) := fun t σ => by rw [hu0]; exact o_m32 t σ v
    have s11 := fun t σ => o_quo1 t σ un q0 hq0 (by omega)
    have m1 : IntKind.u64.wrap ((q0 : Int) * 4294967295) = ((p0 : Nat) : Int) := w_mul q0 4294967295 p0 hp0 (by omega)
    have m2 : IntKind.u64.wrap ((un : Int) - (p0 : Int)) = ((r0 : Nat) : Int) := w_sub un p0 r0 (by omega) (by omega)
    simp only [↓RP, RS, Int.reduceBEq, Int.reduceBNe, Int.reduceLT, Int.reduceLE, Int.reduceAdd, Int.reduceSub, ↓reduceIte, Nat.reduceAdd, Nat.reduceMul, Nat.reduceSub, Nat.reduceLT, Nat.reduceLeDiff, Nat.reduceEqDiff, decide_true, decide_false, fieldAddrF, undE, tupE, c1, s1, s2, s3, s4, s5, s6, s7, s8, s9, s10, s11, m1, m2]
    refine Loop_kx (β := Unit) [2, 8, 9, 10, 11, 13, 14, 15, 16] (fun x : Nat × Nat => fr 0 135 [(2, .d (.int .u64 18446744073709551608)), (8, .d (.int .u64 3)), (9, .d (.int .u64 4294967295)), (10, .d (.int .u64 4294967288)), (11, .d (.int .u64 un)), (13, .d (.int .u64 u1)), (14, .d (.int .u64 u0)), (15, .d (.int .u64 x.1)), (16, .d (.int .u64 x.2))]) (fun _ => []) (fun x => DInv un Q x.1 x.2) (fun x => x.1) (q0, r0) (by kernel_rfl) rfl hI0 0 [2, 8, 9, 10, 11, 13, 14, 15] (fun _ => fr 0 135 [(2, .d (.int .u64 18446744073709551608)), (8, .d (.int .u64 3)), (9, .d (.int .u64 4294967295)), (10, .d (.int .u64 4294967288)), (11, .d (.int .u64 un)), (13, .d (.int .u64 u1)), (14, .d (.int .u64 u0)), (15, .d (.int .u64 Q))]) (fun _ => []) (fun _ => True) (fun x hx => ?_) (fun _ _ => ?_)
    · have dgx := digit 4294967296 4294967295 4294967288 18446744073709551608 un u1 x.1 x.2 Q R rfl (by omega) hunD (by omega) hQ hR hx.1 hx.2.1 hx.2.2.1
      have hr4x := hx.2.2.2
      have hq4x := hx.2.2.1
      have hinx := hx.1
      refine with_eq (x.1 * 4294967288) ?_
      intro p1x hp1x
      refine with_eq (4294967296 * x.2) ?_
      intro p2x hp2x
      refine with_eq (p2x + u1) ?_
      intro p3x hp3x
      rw [← hp1x, ← hp2x, ← hp3x] at dgx
      have w1x : IntKind.u64.wrap ((x.1 : Int) * 4294967288) = ((p1x : Nat) : Int) := w_mul x.1 4294967288 p1x hp1x (by omega)
      have w2x : IntKind.u64.wrap (4294967296 * (x.2 : Int)) = ((p2x : Nat) : Int) := w_mul 4294967296 x.2 p2x hp2x (by omega)
      have w3x : IntKind.u64.wrap ((p2x : Int) + (u1 : Int)) = ((p3x : Nat) : Int) := w_plus p2x u1 p3x hp3x (by omega)
      refine with_eq (x.1 - 1) ?_
      intro kx hkx
      refine with_eq (x.2 + 4294967295) ?_
      intro r2x hr2x
      have w5x : IntKind.u64.wrap ((x.2 : Int) + 4294967295) = ((r2x : Nat) : Int) := w_plus x.2 4294967295 r2x hr2x (by omega)
      by_cases hAx : x.1 < 4294967296
      · have g1 : decide ((4294967296 : Int) ≤ (x.1 : Int)) = false := by simpa using (by omega : (x.1 : Int) < 4294967296)
        have g1' : decide ((x.1 : Int) ≥ 4294967296) = false := g1
        by_cases hBx : p1x ≤ p3x
        · have g2 : decide ((p3x : Int) < (p1x : Int)) = false := by simpa using (by omega : (p1x : Int) ≤ p3x)
          have g2' : decide ((p1x : Int) > (p3x : Int)) = false := g2
          have hxq : x.1 = Q := dgx.1 hBx
          rw [hxq] at g1 g1' w1x
          simp only [fr, ↓RP, RS, Int.reduceBEq, Int.reduceBNe, Int.reduceLT, Int.reduceLE, Int.reduceAdd, Int.reduceSub, ↓reduceIte, Nat.reduceAdd, Nat.reduceMul, Nat.reduceSub, Nat.reduceLT, Nat.reduceLeDiff, Nat.reduceEqDiff, decide_true, decide_false, fieldAddrF, undE, tupE, g1, g1', w1x, w2x, w3x, g2, g2', hxq]
          exact exit_k () trivial (by kernel_rfl) rfl
        · have hCx : p3x < p1x := by omega
          have g2 : decide ((p3x : Int) < (p1x : Int)) = true := by simpa using (by omega : (p3x : Int) < p1x)
          have g2' : decide ((p1x : Int) > (p3x : Int)) = true := g2
          have hq1x := dgx.2.1 (.inr hCx)
          have w4x : IntKind.u64.wrap ((x.1 : Int) - 1) = ((kx : Nat) : Int) := w_sub x.1 1 kx (by omega) (by omega)
          by_cases hDx : 4294967296 ≤ r2x
          · have g3 : decide ((4294967296 : Int) ≤ (r2x : Int)) = true := by simpa using (by omega : (4294967296 : Int) ≤ r2x)
            have g3' : decide ((r2x : Int) ≥ 4294967296) = true := g3
            have hkq : kx = Q := by have := dgx.2.2 (.inr hCx) (by omega); omega
            rw [hkq] at w4x
            simp only [fr, ↓RP, RS, Int.reduceBEq, Int.reduceBNe, Int.reduceLT, Int.reduceLE, Int.reduceAdd, Int.reduceSub, ↓reduceIte, Nat.reduceAdd, Nat.reduceMul, Nat.reduceSub, Nat.reduceLT, Nat.reduceLeDiff, Nat.reduceEqDiff, decide_true, decide_false, fieldAddrF, undE, tupE, g1, g1', w1x, w2x, w3x, g2, g2', w4x, w5x, g3, g3']
            exact exit_k () trivial (by kernel_rfl) rfl
          · have g3 : decide ((4294967296 : Int) ≤ (r2x : Int)) = false := by simpa using (by omega : (r2x : Int) < 4294967296)
            have g3' : decide ((r2x : Int) ≥ 4294967296) = false := g3
            simp only [fr, ↓RP, RS, Int.reduceBEq, Int.reduceBNe, Int.reduceLT, Int.reduceLE, Int.reduceAdd, Int.reduceSub, ↓reduceIte, Nat.reduceAdd, Nat.reduceMul, Nat.reduceSub, Nat.reduceLT, Nat.reduceLeDiff, Nat.reduceEqDiff, decide_true, decide_false, fieldAddrF, undE, tupE, g1, g1', w1x, w2x, w3x, g2, g2', w4x, w5x, g3, g3']
            refine seqK_n ?_
            have z1 : kx * 4294967295 + r2x = un := by rw [hkx, hr2x, Nat.sub_mul]; omega
            exact ⟨(kx, r2x), ⟨z1, by show Q ≤ kx; omega, by show kx ≤ 4294967296; omega, by show r2x < 4294967296; omega⟩, by show kx < x.1; omega, by kernel_rfl, rfl⟩
      · have hEx : 4294967296 ≤ x.1 := by omega
        have g1 : decide ((4294967296 : Int) ≤ (x.1 : Int)) = true := by simpa using (by omega : (4294967296 : Int) ≤ x.1)
        have g1' : decide ((x.1 : Int) ≥ 4294967296) = true := g1
        have hq1x := dgx.2.1 (.inl hEx)
        have w4x : IntKind.u64.wrap ((x.1 : Int) - 1) = ((kx : Nat) : Int) := w_sub x.1 1 kx (by omega) (by omega)
        by_cases hDx : 4294967296 ≤ r2x
        · have g3 : decide ((4294967296 : Int) ≤ (r2x : Int)) = true := by simpa using (by omega : (4294967296 : Int) ≤ r2x)
          have g3' : decide ((r2x : Int) ≥ 4294967296) = true := g3
          have hkq : kx = Q := by have := dgx.2.2 (.inl hEx) (by omega); omega
          rw [hkq] at w4x
          simp only [fr, ↓RP, RS, Int.reduceBEq, Int.reduceBNe, Int.reduceLT, Int.reduceLE, Int.reduceAdd, Int.reduceSub, ↓reduceIte, Nat.reduceAdd, Nat.reduceMul, Nat.reduceSub, Nat.reduceLT, Nat.reduceLeDiff, Nat.reduceEqDiff, decide_true, decide_false, fieldAddrF, undE, tupE, g1, g1', w4x, w5x, g3, g3']
          exact exit_k () trivial (by kernel_rfl) rfl
        · have g3 : decide ((4294967296 : Int) ≤ (r2x : Int)) = false := by simpa using (by omega : (r2x : Int) < 4294967296)
          have g3' : decide ((r2x : Int) ≥ 4294967296) = false := g3
          simp only [fr, ↓RP, RS, Int.reduceBEq, Int.reduceBNe, Int.reduceLT, Int.reduceLE, Int.reduceAdd, Int.reduceSub, ↓reduceIte, Nat.reduceAdd, Nat.reduceMul, Nat.reduceSub, Nat.reduceLT, Nat.reduceLeDiff, Nat.reduceEqDiff, decide_true, decide_false, fieldAddrF, undE, tupE, g1, g1', w4x, w5x, g3, g3']
          refine seqK_n ?_
          have z1 : kx * 4294967295 + r2x = un := by rw [hkx, hr2x, Nat.sub_mul]; omega
          exact ⟨(kx, r2x), ⟨z1, by show Q ≤ kx; omega, by show kx ≤ 4294967296; omega, by show r2x < 4294967296; omega⟩, by show kx < x.1; omega, by kernel_rfl, rfl⟩
    · simp only [fr, ↓RP, RS, Int.reduceBEq, Int.reduceBNe, Int.reduceLT, Int.reduceLE, Int.reduceAdd, Int.reduceSub, ↓reduceIte, Nat.reduceAdd, Nat.reduceMul, Nat.reduceSub, Nat.reduceLT, Nat.reduceLeDiff, Nat.reduceEqDiff, decide_true, decide_false, fieldAddrF, undE, tupE, x1, x2, x3, x4, x5, x6, x7]
      refine Loop_kx (β := Unit) [2, 8, 9, 10, 14, 15, 16, 17, 18] (fun y : Nat × Nat => fr 0 135 [(2, .d (.int .u64 18446744073709551608)), (8, .d (.int .u64 3)), (9, .d (.int .u64 4294967295)), (10, .d (.int .u64 4294967288)), (14, .d (.int .u64 u0)), (15, .d (.int .u64 Q)), (16, .d (.int .u64 y.2)), (17, .d (.int .u64 R)), (18, .d (.int .u64 y.1))]) (fun _ => []) (fun y => DInv R Q2 y.1 y.2) (fun y => y.1) (q20, r20) (by kernel_rfl) rfl hI20 2 [2, 8, 14, 15, 17, 18] (fun _ => fr 0 135 [(2, .d (.int .u64 18446744073709551608)), (8, .d (.int .u64 3)), (14, .d (.int .u64 u0)), (15, .d (.int .u64 Q)), (17, .d (.int .u64 R)), (18, .d (.int .u64 Q2))]) (fun _ => []) (fun _ => True) (fun y hy => ?_) (fun _ _ => ?_)
      · have dgy := digit 4294967296 4294967295 4294967288 18446744073709551608 R u0 y.1 y.2 Q2 R2 rfl (by omega) hR (by omega) hQ2 hR2 hy.1 hy.2.1 hy.2.2.1
        have hr4y := hy.2.2.2
        have hq4y := hy.2.2.1
        have hiny := hy.1
        refine with_eq (y.1 * 4294967288) ?_
        intro p1y hp1y
        refine with_eq (4294967296 * y.2) ?_
        intro p2y hp2y
        refine with_eq (p2y + u0) ?_
        intro p3y hp3y
        rw [← hp1y, ← hp2y, ← hp3y] at dgy
        have w1y : IntKind.u64.wrap ((y.1 : Int) * 4294967288) = ((p1y : Nat) : Int) := w_mul y.1 4294967288 p1y hp1y (by omega)
        have w2y : IntKind.u64.wrap (4294967296 * (y.2 : Int)) = ((p2y : Nat) : Int) := w_mul 4294967296 y.2 p2y hp2y (by omega)
        have w3y : IntKind.u64.wrap ((p2y : Int) + (u0 : Int)) = ((p3y : Nat) : Int) := w_plus p2y u0 p3y hp3y (by omega)
        refine with_eq (y.1 - 1) ?_
        intro ky hky
        refine with_eq (y.2 + 4294967295) ?_
        intro r2y hr2y
        have w5y : IntKind.u64.wrap ((y.2 : Int) + 4294967295) = ((r2y : Nat) : Int) := w_plus y.2 4294967295 r2y hr2y (by omega)
        by_cases hAy : y.1 < 4294967296
        · have g1 : decide ((4294967296 : Int) ≤ (y.1 : Int)) = false := by simpa using (by omega : (y.1 : Int) < 4294967296)
          have g1' : decide ((y.1 : Int) ≥ 4294967296) = false := g1
          by_cases hBy : p1y ≤ p3y
          · have g2 : decide ((p3y : Int) < (p1y : Int)) = false := by simpa using (by omega : (p1y : Int) ≤ p3y)
            have g2' : decide ((p1y : Int) > (p3y : Int)) = false := g2
            have hxq : y.1 = Q2 := dgy.1 hBy
            rw [hxq] at g1 g1' w1y
            simp only [fr, ↓RP, RS, Int.reduceBEq, Int.reduceBNe, Int.reduceLT, Int.reduceLE, Int.reduceAdd, Int.reduceSub, ↓reduceIte, Nat.reduceAdd, Nat.reduceMul, Nat.reduceSub, Nat.reduceLT, Nat.reduceLeDiff, Nat.reduceEqDiff, decide_true, decide_false, fieldAddrF, undE, tupE, g1, g1', w1y, w2y, w3y, g2, g2', hxq]
            exact exit_k () trivial (by kernel_rfl) rfl
          · have hCy : p3y < p1y := by omega
            have g2 : decide ((p3y : Int) < (p1y : Int)) = true := by simpa using (by omega : (p3y : Int) < p1y)
            have g2' : decide ((p1y : Int) > (p3y : Int)) = true := g2
            have hq1y := dgy.2.1 (.inr hCy)
            have w4y : IntKind.u64.wrap ((y.1 : Int) - 1) = ((ky : Nat) : Int) := w_sub y.1 1 ky (by omega) (by omega)
            by_cases hDy : 4294967296 ≤ r2y
            · have g3 : decide ((4294967296 : Int) ≤ (r2y : Int)) = true := by simpa using (by omega : (4294967296 : Int) ≤ r2y)
              have g3' : decide ((r2y : Int) ≥ 4294967296) = true := g3
              have hkq : ky = Q2 := by have := dgy.2.2 (.inr hCy) (by omega); omega
              rw [hkq] at w4y
              simp only [fr, ↓RP, RS, Int.reduceBEq, Int.reduceBNe, Int.reduceLT, Int.reduceLE, Int.reduceAdd, Int.reduceSub, ↓reduceIte, Nat.reduceAdd, Nat.reduceMul, Nat.reduceSub, Nat.reduceLT, Nat.reduceLeDiff, Nat.reduceEqDiff, decide_true, decide_false, fieldAddrF, undE, tupE, g1, g1', w1y, w2y, w3y, g2, g2', w4y, w5y, g3, g3']
              exact exit_k () trivial (by kernel_rfl) rfl
            · have g3 : decide ((4294967296 : Int) ≤ (r2y : Int)) = false := by simpa using (by omega : (r2y : Int) < 4294967296)
              have g3' : decide ((r2y : Int) ≥ 4294967296) = false := g3
              simp only [fr, ↓RP, RS, Int.reduceBEq, Int.reduceBNe, Int.reduceLT, Int.reduceLE, Int.reduceAdd, Int.reduceSub, ↓reduceIte, Nat.reduceAdd, Nat.reduceMul, Nat.reduceSub, Nat.reduceLT, Nat.reduceLeDiff, Nat.reduceEqDiff, decide_true, decide_false, fieldAddrF, undE, tupE, g1, g1', w1y, w2y, w3y, g2, g2', w4y, w5y, g3, g3']
              refine seqK_n ?_
              have z1 : ky * 4294967295 + r2y = R := by rw [hky, hr2y, Nat.sub_mul]; omega
              exact ⟨(ky, r2y), ⟨z1, by show Q2 ≤ ky; omega, by show ky ≤ 4294967296; omega, by show r2y < 4294967296; omega⟩, by show ky < y.1; omega, by kernel_rfl, rfl⟩
        · have hEy : 4294967296 ≤ y.1 := by omega
          have g1 : decide ((4294967296 : Int) ≤ (y.1 : Int)) = true := by simpa using (by omega : (4294967296 : Int) ≤ y.1)
          have g1' : decide ((y.1 : Int) ≥ 4294967296) = true := g1
          have hq1y := dgy.2.1 (.inl hEy)
          have w4y : IntKind.u64.wrap ((y.1 : Int) - 1) = ((ky : Nat) : Int) := w_sub y.1 1 ky (by omega) (by omega)
          by_cases hDy : 4294967296 ≤ r2y
          · have g3 : decide ((4294967296 : Int) ≤ (r2y : Int)) = true := by simpa using (by omega : (4294967296 : Int) ≤ r2y)
            have g3' : decide ((r2y : Int) ≥ 4294967296) = true := g3
            have hkq : ky = Q2 := by have := dgy.2.2 (.inl hEy) (by omega); omega
            rw [hkq] at w4y
            simp only [fr, ↓RP, RS, Int.reduceBEq, Int.reduceBNe, Int.reduceLT, Int.reduceLE, Int.reduceAdd, Int.reduceSub, ↓reduceIte, Nat.reduceAdd, Nat.reduceMul, Nat.reduceSub, Nat.reduceLT, Nat.reduceLeDiff, Nat.reduceEqDiff, decide_true, decide_false, fieldAddrF, undE, tupE, g1, g1', w4y, w5y, g3, g3']
            exact exit_k () trivial (by kernel_rfl) rfl
          · have g3 : decide ((4294967296 : Int) ≤ (r2y : Int)) = false := by simpa using (by omega : (r2y : Int) < 4294967296)
            have g3' : decide ((r2y : Int) ≥ 4294967296) = false := g3
            simp only [fr, ↓RP, RS, Int.reduceBEq, Int.reduceBNe, Int.reduceLT, Int.reduceLE, Int.reduceAdd, Int.reduceSub, ↓reduceIte, Nat.reduceAdd, Nat.reduceMul, Nat.reduceSub, Nat.reduceLT, Nat.reduceLeDiff, Nat.reduceEqDiff, decide_true, decide_false, fieldAddrF, undE, tupE, g1, g1', w4y, w5y, g3, g3']
            refine seqK_n ?_
            have z1 : ky * 4294967295 + r2y = R := by rw [hky, hr2y, Nat.sub_mul]; omega
            exact ⟨(ky, r2y), ⟨z1, by show Q2 ≤ ky; omega, by show ky ≤ 4294967296; omega, by show r2y < 4294967296; omega⟩, by show ky < y.1; omega, by kernel_rfl, rfl⟩
      · simp only [fr, ↓RP, RS, Int.reduceBEq, Int.reduceBNe, Int.reduceLT, Int.reduceLE, Int.reduceAdd, Int.reduceSub, ↓reduceIte, Nat.reduceAdd, Nat.reduceMul, Nat.reduceSub, Nat.reduceLT, Nat.reduceLeDiff, Nat.reduceEqDiff, decide_true, decide_false, fieldAddrF, undE, tupE, y1, y2, y3, y4, y5, y6, y7]
        refine hK.fin (r := .tup [.d (.int .u64 (b2 : Nat)), .d (.int .u64 (R8 : Nat))]) ?_ (Fin.none0 _ _ rfl) ⟨⟨_, by rw [hfin]⟩, rfl⟩
        simp only [e361, resF, resAll, resOne, List.getD_cons_zero, List.getD_cons_succ]

/-! ### the modulus 2305843009213693950 -/
theorem lz_N (τ : List Ob) : callA Tryz.prog 400 [.d (.int .u64 2305843009213693950)] τ fun r σ' => r = .d (.int .i64 3) ∧ σ' = τ := run_val tabOk 9 (by kernel_rfl) τ rfl

theorem dq_N (lo : Nat) (h1 : lo < 18446744073709551616) (t : TypeId) (σ : List Ob) : binF Tryz.prog .quo t σ (.d (.int .u64 lo)) (.d (.int .u64 2305843009213693950)) = some (.d (.int .u64 (lo / 2305843009213693950 : Nat))) := u64_quo lo 2305843009213693950 (by omega) h1
theorem dr_N (lo : Nat) (t : TypeId) (σ : List Ob) : binF Tryz.prog .rem t σ (.d (.int .u64 lo)) (.d (.int .u64 2305843009213693950)) = some (.d (.int .u64 (lo % 2305843009213693950 : Nat))) := u64_rem lo 2305843009213693950 (by omega)
theorem div64_N (hi lo Z : Nat) (h0 : hi < 2305843009213693950) (h1 : lo < 18446744073709551616) (hZ : Z = hi * 18446744073709551616 + lo) : callA Tryz.prog 361 [.d (.int .u64 hi), .d (.int .u64 lo), .d (.int .u64 2305843009213693950)] [] fun r σ' => (∃ q : Int, r = .tup [.d (.int .u64 q), .d (.int .u64 (Z % 2305843009213693950 : Nat))]) ∧ σ' = [] := by
  obtain ⟨h8, hh8⟩ : ∃ h8, h8 = hi * 8 % 18446744073709551616 := ⟨_, rfl⟩
  have hh8' : h8 = hi * 8 := by omega
  obtain ⟨l61, hl61⟩ : ∃ l61, l61 = lo / 2305843009213693952 := ⟨_, rfl⟩
  obtain ⟨un, hun⟩ : ∃ un, un = h8 + l61 := ⟨_, rfl⟩
  have hunD : un < 18446744073709551600 := by omega
  obtain ⟨v, hv⟩ : ∃ v, v = lo * 8 % 18446744073709551616 := ⟨_, rfl⟩
  obtain ⟨u1, hu1⟩ : ∃ u1, u1 = v / 4294967296 := ⟨_, rfl⟩
  obtain ⟨u0, hu0⟩ : ∃ u0, u0 = v % 4294967296 := ⟨_, rfl⟩
  obtain ⟨q0, hq0⟩ : ∃ q0, q0 = un / 4294967295 := ⟨_, rfl⟩
  obtain ⟨r0, hr0⟩ : ∃ r0, r0 = un % 4294967295 := ⟨_, rfl⟩
  obtain ⟨p0, hp0⟩ : ∃ p0, p0 = q0 * 4294967295 := ⟨_, rfl⟩
  obtain ⟨Q, R, hQ, hR⟩ : ∃ Q R, un * 4294967296 + u1 = Q * 18446744073709551600 + R ∧ R < 18446744073709551600 := ⟨_, _, (Nat.div_add_mod' (un * 4294967296 + u1) 18446744073709551600).symm, Nat.mod_lt _ (by omega)⟩
  obtain ⟨a1, ha1⟩ : ∃ a1, a1 = un * 4294967296 % 18446744073709551616 := ⟨_, rfl⟩
  obtain ⟨a2, ha2⟩ : ∃ a2, a2 = (a1 + u1) % 18446744073709551616 := ⟨_, rfl⟩
  obtain ⟨a3, ha3⟩ : ∃ a3, a3 = Q * 18446744073709551600 % 18446744073709551616 := ⟨_, rfl⟩
  have ha4 : R = (a2 + 18446744073709551616 - a3) % 18446744073709551616 := by
    rw [ha2, ha1, ha3]; exact (sub_law (un * 4294967296) u1 (Q * 18446744073709551600) R hQ (by omega)).symm
  obtain ⟨q20, hq20⟩ : ∃ q20, q20 = R / 4294967295 := ⟨_, rfl⟩
  obtain ⟨r20, hr20⟩ : ∃ r20, r20 = R % 4294967295 := ⟨_, rfl⟩
  obtain ⟨p20, hp20⟩ : ∃ p20, p20 = q20 * 4294967295 := ⟨_, rfl⟩
  obtain ⟨Q2, R2, hQ2, hR2⟩ : ∃ Q2 R2, R * 4294967296 + u0 = Q2 * 18446744073709551600 + R2 ∧ R2 < 18446744073709551600 := ⟨_, _, (Nat.div_add_mod' (R * 4294967296 + u0) 18446744073709551600).symm, Nat.mod_lt _ (by omega)⟩
  have hQ3 := digit0 4294967296 4294967295 4294967280 18446744073709551600 R u0 Q2 R2 rfl (by omega) (by omega) hQ2
  have hz0 : lo * 8 = l61 * 18446744073709551616 + v := by rw [hv, hl61]; clear hZ hQ hQ2; omega
  have hz1 := z_law1 Z hi lo h8 l61 v un 18446744073709551616 hZ hh8' hz0 hun
  have hz2 : v = u1 * 4294967296 + u0 := by omega
  have hz3 := z_law2 Z un v u1 u0 Q Q2 R R2 18446744073709551600 4294967296 18446744073709551616 rfl hz1 hz2 hQ hQ2
  have hfin := z_law3 Z (Q * 4294967296 + Q2) 18446744073709551600 2305843009213693950 R2 rfl hz3 hR2
  clear hz0 hz1 hz3
  obtain ⟨R8, hR8⟩ : ∃ R8, R8 = R2 / 8 := ⟨_, rfl⟩
  rw [← hR8] at hfin
  obtain ⟨b1, hb1⟩ : ∃ b1, b1 = Q * 4294967296 % 18446744073709551616 := ⟨_, rfl⟩
  obtain ⟨b2, hb2⟩ : ∃ b2, b2 = (b1 + Q2) % 18446744073709551616 := ⟨_, rfl⟩
  obtain ⟨c1', hc1⟩ : ∃ c1', c1' = R * 4294967296 % 18446744073709551616 := ⟨_, rfl⟩
  obtain ⟨c2, hc2⟩ : ∃ c2, c2 = (c1' + u0) % 18446744073709551616 := ⟨_, rfl⟩
  obtain ⟨c3, hc3⟩ : ∃ c3, c3 = Q2 * 18446744073709551600 % 18446744073709551616 := ⟨_, rfl⟩
  have hc4 : R2 = (c2 + 18446744073709551616 - c3) % 18446744073709551616 := by
    rw [hc2, hc1, hc3]; exact (sub_law (R * 4294967296) u0 (Q2 * 18446744073709551600) R2 hQ2 (by omega)).symm
  have y1 : IntKind.u64.wrap ((Q : Int) * 4294967296) = ((b1 : Nat) : Int) := w_mulm Q 4294967296 b1 hb1
  have y2 : IntKind.u64.wrap ((b1 : Int) + (Q2 : Int)) = ((b2 : Nat) : Int) := w_plusm b1 Q2 b2 hb2
  have y3 : IntKind.u64.wrap ((R : Int) * 4294967296) = ((c1' : Nat) : Int) := w_mulm R 4294967296 c1' hc1
  have y4 : IntKind.u64.wrap ((c1' : Int) + (u0 : Int)) = ((c2 : Nat) : Int) := w_plusm c1' u0 c2 hc2
  have y5 : IntKind.u64.wrap ((Q2 : Int) * 18446744073709551600) = ((c3 : Nat) : Int) := w_mulm Q2 18446744073709551600 c3 hc3
  have y6 : IntKind.u64.wrap ((c2 : Int) - (c3 : Int)) = ((R2 : Nat) : Int) := w_subm c2 c3 R2 (by omega) hc4
  have y7 := fun t σ => o_shr3' t σ R2 R8 hR8
  have hI2a : q20 * 4294967295 + r20 = R := by rw [hq20, hr20]; exact Nat.div_add_mod' R 4294967295
  have hI2b : Q2 ≤ q20 := by omega
  have hI2c : q20 ≤ 4294967296 := by omega
  have hI2d : r20 < 4294967296 := by omega
  have hI20 : DInv R Q2 q20 r20 := ⟨hI2a, hI2b, hI2c, hI2d⟩
  have x1 : IntKind.u64.wrap ((un : Int) * 4294967296) = ((a1 : Nat) : Int) := w_mulm un 4294967296 a1 ha1
  have x2 : IntKind.u64.wrap ((a1 : Int) + (u1 : Int)) = ((a2 : Nat) : Int) := w_plusm a1 u1 a2 ha2
  have x3 : IntKind.u64.wrap ((Q : Int) * 18446744073709551600) = ((a3 : Nat) : Int) := w_mulm Q 18446744073709551600 a3 ha3
  have x4 : IntKind.u64.wrap ((a2 : Int) - (a3 : Int)) = ((R : Nat) : Int) := w_subm a2 a3 R (by omega) ha4
  have x5 := fun t σ => o_quo1 t σ R q20 hq20 (by omega)
  have x6 : IntKind.u64.wrap ((q20 : Int) * 4294967295) = ((p20 : Nat) : Int) := w_mul q20 4294967295 p20 hp20 (by omega)
  have x7 : IntKind.u64.wrap ((R : Int) - (p20 : Int)) = ((r20 : Nat) : Int) := w_sub R p20 r20 (by omega) (by omega)
  have hQ1 := digit0 4294967296 4294967295 4294967280 18446744073709551600 un u1 Q R rfl (by omega) (by omega) hQ
  have hQ0 : Q ≤ q0 := by omega
  have hI0a : q0 * 4294967295 + r0 = un := by rw [hq0, hr0]; exact Nat.div_add_mod' un 4294967295
  have hI0c : q0 ≤ 4294967296 := by omega
  have hI0d : r0 < 4294967296 := by omega
  have hI0 : DInv un Q q0 r0 := ⟨hI0a, hQ0, hI0c, hI0d⟩
  refine w361.go fun K hK => ?_
  have e0 : ((2305843009213693950 : Int) == 0) = false := rfl
  have e1 : decide ((2305843009213693950 : Int) ≤ (hi : Int)) = false := by simpa using (by omega : (hi : Int) < 2305843009213693950)
  simp only [e361, c361, p361, Tryz.f361, codeOf, comp, opsOf, stOf, cop, cstp, copAt, planFor, List.find?, List.find?_nil, Option.map_none, Option.getD_none, List.any_cons, List.any_nil, Stp.idx, Bool.or_false, Nat.reduceBEq, ↓RP, RS, Int.reduceBEq, Int.reduceBNe, Int.reduceLT, Int.reduceLE, Int.reduceAdd, Int.reduceSub, ↓reduceIte, Nat.reduceAdd, Nat.reduceMul, Nat.reduceSub, Nat.reduceLT, Nat.reduceLeDiff, Nat.reduceEqDiff, decide_true, decide_false, fieldAddrF, undE, tupE, e0, e1]
  by_cases hz : hi = 0
  · have e2 : ((hi : Int) == 0) = true := by simpa using hz
    simp only [↓RP, RS, Int.reduceBEq, Int.reduceBNe, Int.reduceLT, Int.reduceLE, Int.reduceAdd, Int.reduceSub, ↓reduceIte, Nat.reduceAdd, Nat.reduceMul, Nat.reduceSub, Nat.reduceLT, Nat.reduceLeDiff, Nat.reduceEqDiff, decide_true, decide_false, fieldAddrF, undE, tupE, e2, dq_N lo h1, dr_N]
    have hr : Z = lo := by rw [hZ, hz, Nat.zero_mul, Nat.zero_add]
    refine hK.fin (r := .tup [.d (.int .u64 (lo / 2305843009213693950 : Nat)), .d (.int .u64 (lo % 2305843009213693950 : Nat))]) ?_ (Fin.none0 _ _ rfl) ⟨⟨_, by rw [hr]⟩, rfl⟩
    simp only [e361, resF, resAll, resOne, List.getD_cons_zero, List.getD_cons_succ]
  · have e2 : ((hi : Int) == 0) = false := by simpa using hz
    simp only [↓RP, RS, Int.reduceBEq, Int.reduceBNe, Int.reduceLT, Int.reduceLE, Int.reduceAdd, Int.reduceSub, ↓reduceIte, Nat.reduceAdd, Nat.reduceMul, Nat.reduceSub, Nat.reduceLT, Nat.reduceLeDiff, Nat.reduceEqDiff, decide_true, decide_false, fieldAddrF, undE, tupE, e2]
    refine CallK_use' (lz_N []) ?_
    rintro r σ' ⟨rfl, rfl⟩
    have c1 : ∀ σ, cvF Tryz.prog 3 119 σ (.d (.int .i64 3)) = some (.d (.int .u64 3), σ) := fun σ => by kernel_rfl
    have s1 : ∀ t σ, binF Tryz.prog .shl t σ (.d (.int .u64 2305843009213693950)) (.d (.int .u64 3)) = some (.d (.int .u64 18446744073709551600)) := fun t σ => by kernel_rfl
    have s2 : ∀ t σ, binF Tryz.prog .shr t σ (.d (.int .u64 18446744073709551600)) (.d (.int .u64 32)) = some (.d (.int .u64 4294967295)) := fun t σ => by kernel_rfl
    have s3 : ∀ t σ, binF Tryz.prog .and t σ (.d (.int .u64 18446744073709551600)) (.d (.int .u64 4294967295)) = some (.d (.int .u64 4294967280)) := fun t σ => by kernel_rfl
    have s5 : IntKind.u64.wrap 61 = 61 := rfl
    have s4 := fun t σ => o_shl3 t σ hi h8 hh8
    have s6 := fun t σ => o_shr61 t σ lo l61 hl61
    have s7 := fun t σ => o_or8 t σ h8 l61 un hi hh8' (by omega) hun (by omega)
    have s8 := fun t σ => o_shl3 t σ lo v hv
    have s9 : ∀ t σ, binF Tryz.prog .shr t σ (.d (.int .u64 v)) (.d (.int .u64 32)) = some (.d (.int .u64 u1)) := fun t σ => by rw [hu1]; exact o_s32 t σ v
    have s10 : ∀ t σ, binF Tryz.prog .and t σ (.d (.int .u64 v)) (.d (.int .u64 4294967295)) = some (.d (.int .u64 u0)) := fun t σ => by rw [hu0]; exact o_m32 t σ v
    have s11 := fun t σ => o_quo1 t σ un q0 hq0 (by omega)
    have m1 : IntKind.u64.wrap ((q0 : Int) * 4294967295) = ((p0 : Nat) : Int) := w_mul q0 4294967295 p0 hp0 (by omega)
    have m2 : IntKind.u64.wrap ((un : Int) - (p0 : Int)) = ((r0 : Nat) : Int) := w_sub un p0 r0 (by omega) (by omega)
    simp only [↓RP, RS, Int.reduceBEq, Int.reduceBNe, Int.reduceLT, Int.reduceLE, Int.reduceAdd, Int.reduceSub, ↓reduceIte, Nat.reduceAdd, Nat.reduceMul, Nat.reduceSub, Nat.reduceLT, Nat.reduceLeDiff, Nat.reduceEqDiff, decide_true, decide_false, fieldAddrF, undE, tupE, c1, s1, s2, s3, s4, s5, s6, s7, s8, s9, s10, s11, m1, m2]
    refine Loop_kx (β := Unit) [2, 8, 9, 10, 11, 13, 14, 15, 16] (fun x : Nat × Nat => fr 0 135 [(2, .d (.int .u64 18446744073709551600)), (8, .d (.int .u64 3)), (9, .d (.int .u64 4294967295)), (10, .d (.int .u64 4294967280)), (11, .d (.int .u64 un)), (13, .d (.int .u64 u1)), (14, .d (.int .u64 u0)), (15, .d (.int .u64 x.1)), (16, .d (.int .u64 x.2))]) (fun _ => []) (fun x => DInv un Q x.1 x.2) (fun x => x.1) (q0, r0) (by kernel_rfl) rfl hI0 0 [2, 8, 9, 10, 11, 13, 14, 15] (fun _ => fr 0 135 [(2, .d (.int .u64 18446744073709551600)), (8, .d (.int .u64 3)), (9, .d (.int .u64 4294967295)), (10, .d (.int .u64 4294967280)), (11, .d (.int .u64 un)), (13, .d (.int .u64 u1)), (14, .d (.int .u64 u0)), (15, .d (.int .u64 Q))]) (fun _ => []) (fun _ => True) (fun x hx => ?_) (fun _ _ => ?_)
    · have dgx := digit 4294967296 4294967295 4294967280 18446744073709551600 un u1 x.1 x.2 Q R rfl (by omega) hunD (by omega) hQ hR hx.1 hx.2.1 hx.2.2.1
      have hr4x := hx.2.2.2
      have hq4x := hx.2.2.1
      have hinx := hx.1
      refine with_eq (x.1 * 4294967280) ?_
      intro p1x hp1x
      refine with_eq (4294967296 * x.2) ?_
      intro p2x hp2x
      refine with_eq (p2x + u1) ?_
      intro p3x hp3x
      rw [← hp1x, ← hp2x, ← hp3x] at dgx
      have w1x : IntKind.u64.wrap ((x.1 : Int) * 4294967280) = ((p1x : Nat) : Int) := w_mul x.1 4294967280 p1x hp1x (by omega)
      have w2x : IntKind.u64.wrap (4294967296 * (x.2 : Int)) = ((p2x : Nat) : Int) := w_mul 4294967296 x.2 p2x hp2x (by omega)
      have w3x : IntKind.u64.wrap ((p2x : Int) + (u1 : Int)) = ((p3x : Nat) : Int) := w_plus p2x u1 p3x hp3x (by omega)
      refine with_eq (x.1 - 1) ?_
      intro kx hkx
      refine with_eq (x.2 + 4294967295) ?_
      intro r2x hr2x
      have w5x : IntKind.u64.wrap ((x.2 : Int) + 4294967295) = ((r2x : Nat) : Int) := w_plus x.2 4294967295 r2x hr2x (by omega)
      by_cases hAx : x.1 < 4294967296
      · have g1 : decide ((4294967296 : Int) ≤ (x.1 : Int)) = false := by simpa using (by omega : (x.1 : Int) < 4294967296)
        have g1' : decide ((x.1 : Int) ≥ 4294967296) = false := g1
        by_cases hBx : p1x ≤ p3x
        · have g2 : decide ((p3x : Int) < (p1x : Int)) = false := by simpa using (by omega : (p1x : Int) ≤ p3x)
          have g2' : decide ((p1x : Int) > (p3x : Int)) = false := g2
          have hxq : x.1 = Q := dgx.1 hBx
          rw [hxq] at g1 g1' w1x
          simp only [fr, ↓RP, RS, Int.reduceBEq, Int.reduceBNe, Int.reduceLT, Int.reduceLE, Int.reduceAdd, Int.reduceSub, ↓reduceIte, Nat.reduceAdd, Nat.reduceMul, Nat.reduceSub, Nat.reduceLT, Nat.reduceLeDiff, Nat.reduceEqDiff, decide_true, decide_false, fieldAddrF, undE, tupE, g1, g1', w1x, w2x, w3x, g2, g2', hxq]
          exact exit_k () trivial (by kernel_rfl) rfl
        · have hCx : p3x < p1x := by omega
          have g2 : decide ((p3x : Int) < (p1x : Int)) = true := by simpa using (by omega : (p3x : Int) < p1x)
          have g2' : decide ((p1x : Int) > (p3x : Int)) = true := g2
          have hq1x := dgx.2.1 (.inr hCx)
          have w4x : IntKind.u64.wrap ((x.1 : Int) - 1) = ((kx : Nat) : Int) := w_sub x.1 1 kx (by omega) (by omega)
          by_cases hDx : 4294967296 ≤ r2x
          · have g3 : decide ((4294967296 : Int) ≤ (r2x : Int)) = true := by simpa using (by omega : (4294967296 : Int) ≤ r2x)
            have g3' : decide ((r2x : Int) ≥ 4294967296) = true := g3
            have hkq : kx = Q := by have := dgx.2.2 (.inr hCx) (by omega); omega
            rw [hkq] at w4x
            simp only [fr, ↓RP, RS, Int.reduceBEq, Int.reduceBNe, Int.reduceLT, Int.reduceLE, Int.reduceAdd, Int.reduceSub, ↓reduceIte, Nat.reduceAdd, Nat.reduceMul, Nat.reduceSub, Nat.reduceLT, Nat.reduceLeDiff, Nat.reduceEqDiff, decide_true, decide_false, fieldAddrF, undE, tupE, g1, g1', w1x, w2x, w3x, g2, g2', w4x, w5x, g3, g3']
            exact exit_k () trivial (by kernel_rfl) rfl
          · have g3 : decide ((4294967296 : Int) ≤ (r2x : Int)) = false := by simpa using (by omega : (r2x : Int) < 4294967296)
            have g3' : decide ((r2x : Int) ≥ 4294967296) = false := g3
            simp only [fr, ↓RP, RS, Int.reduceBEq, Int.reduceBNe, Int.reduceLT, Int.reduceLE, Int.reduceAdd, Int.reduceSub, ↓reduceIte, Nat.reduceAdd, Nat.reduceMul, Nat.reduceSub, Nat.reduceLT, Nat.reduceLeDiff, Nat.reduceEqDiff, decide_true, decide_false, fieldAddrF, undE, tupE, g1, g1', w1x, w2x, w3x, g2, g2', w4x, w5x, g3, g3']
            refine seqK_n ?_
            have z1 : kx * 4294967295 + r2x = un := by rw [hkx, hr2x, Nat.sub_mul]; omega
            exact ⟨(kx, r2x), ⟨z1, by show Q ≤ kx; omega, by show kx ≤ 4294967296; omega, by show r2x < 4294967296; omega⟩, by show kx < x.1; omega, by kernel_rfl, rfl⟩
      · have hEx : 4294967296 ≤ x.1 := by omega
        have g1 : decide ((4294967296 : Int) ≤ (x.1 : Int)) = true := by simpa using (by omega : (4294967296 : Int) ≤ x.1)
        have g1' : decide ((x.1 : Int) ≥ 4294967296) = true := g1
        have hq1x := dgx.2.1 (.inl hEx)
        have w4x : IntKind.u64.wrap ((x.1 : Int) - 1) = ((kx : Nat) : Int) := w_sub x.1 1 kx (by omega) (by omega)
        by_cases hDx : 4294967296 ≤ r2x
        · have g3 : decide ((4294967296 : Int) ≤ (r2x : Int)) = true := by simpa using (by omega : (4294967296 : Int) ≤ r2x)
          have g3' : decide ((r2x : Int) ≥ 4294967296) = true := g3
          have hkq : kx = Q := by have := dgx.2.2 (.inl hEx) (by omega); omega
          rw [hkq] at w4x
          simp only [fr, ↓RP, RS, Int.reduceBEq, Int.reduceBNe, Int.reduceLT, Int.reduceLE, Int.reduceAdd, Int.reduceSub, ↓reduceIte, Nat.reduceAdd, Nat.reduceMul, Nat.reduceSub, Nat.reduceLT, Nat.reduceLeDiff, Nat.reduceEqDiff, decide_true, decide_false, fieldAddrF, undE, tupE, g1, g1', w4x, w5x, g3, g3']
          exact exit_k () trivial (by kernel_rfl) rfl
        · have g3 : decide ((4294967296 : Int) ≤ (r2x : Int)) = false := by simpa using (by omega : (r2x : Int) < 4294967296)
          have g3' : decide ((r2x : Int) ≥ 4294967296) = false := g3
          simp only [fr, ↓RP, RS, Int.reduceBEq, Int.reduceBNe, Int.reduceLT, Int.reduceLE, Int.reduceAdd, Int.reduceSub, ↓reduceIte, Nat.reduceAdd, Nat.reduceMul, Nat.reduceSub, Nat.reduceLT, Nat.reduceLeDiff, Nat.reduceEqDiff, decide_true, decide_false, fieldAddrF, undE, tupE, g1, g1', w4x, w5x, g3, g3']
          refine seqK_n ?_
          have z1 : kx * 4294967295 + r2x = un := by rw [hkx, hr2x, Nat.sub_mul]; omega
          exact ⟨(kx, r2x), ⟨z1, by show Q ≤ kx; omega, by show kx ≤ 4294967296; omega, by show r2x < 4294967296; omega⟩, by show kx < x.1; omega, by kernel_rfl, rfl⟩
    · simp only [fr, ↓RP, RS, Int.reduceBEq, Int.reduceBNe, Int.reduceLT, Int.reduceLE, Int.reduceAdd, Int.reduceSub, ↓reduceIte, Nat.reduceAdd, Nat.reduceMul, Nat.reduceSub, Nat.reduceLT, Nat.reduceLeDiff, Nat.reduceEqDiff, decide_true, decide_false, fieldAddrF, undE, tupE, x1, x2, x3, x4, x5, x6, x7]
      refine Loop_kx (β := Unit) [2, 8, 9, 10, 14, 15, 16, 17, 18] (fun y : Nat × Nat => fr 0 135 [(2, .d (.int .u64 18446744073709551600)), (8, .d (.int .u64 3)), (9, .d (.int .u64 4294967295)), (10, .d (.int .u64 4294967280)), (14, .d (.int .u64 u0)), (15, .d (.int .u64 Q)), (16, .d (.int .u64 y.2)), (17, .d (.int .u64 R)), (18, .d (.int .u64 y.1))]) (fun _ => []) (fun y => DInv R Q2 y.1 y.2) (fun y => y.1) (q20, r20) (by kernel_rfl) rfl hI20 2 [2, 8, 14, 15, 17, 18] (fun _ => fr 0 135 [(2, .d (.int .u64 18446744073709551600)), (8, .d (.int .u64 3)), (14, .d (.int .u64 u0)), (15, .d (.int .u64 Q)), (17, .d (.int .u64 R)), (18, .d (.int .u64 Q2))]) (fun _ => []) (fun _ => True) (fun y hy => ?_) (fun _ _ => ?_)
      · have dgy := digit 4294967296 4294967295 4294967280 18446744073709551600 R u0 y.1 y.2 Q2 R2 rfl (by omega) hR (by omega) hQ2 hR2 hy.1 hy.2.1 hy.2.2.1
        have hr4y := hy.2.2.2
        have hq4y := hy.2.2.1
        have hiny := hy.1
        refine with_eq (y.1 * 4294967280) ?_
        intro p1y hp1y
        refine with_eq (4294967296 * y.2) ?_
        intro p2y hp2y
        refine with_eq (p2y + u0) ?_
        intro p3y hp3y
        rw [← hp1y, ← hp2y, ← hp3y] at dgy
        have w1y : IntKind.u64.wrap ((y.1 : Int) * 4294967280) = ((p1y : Nat) : Int) := w_mul y.1 4294967280 p1y hp1y (by omega)
        have w2y : IntKind.u64.wrap (4294967296 * (y.2 : Int)) = ((p2y : Nat) : Int) := w_mul 4294967296 y.2 p2y hp2y (by omega)
        have w3y : IntKind.u64.wrap ((p2y : Int) + (u0 : Int)) = ((p3y : Nat) : Int) := w_plus p2y u0 p3y hp3y (by omega)
        refine with_eq (y.1 - 1) ?_
        intro ky hky
        refine with_eq (y.2 + 4294967295) ?_
        intro r2y hr2y
        have w5y : IntKind.u64.wrap ((y.2 : Int) + 4294967295) = ((r2y : Nat) : Int) := w_plus y.2 4294967295 r2y hr2y (by omega)
        by_cases hAy : y.1 < 4294967296
        · have g1 : decide ((4294967296 : Int) ≤ (y.1 : Int)) = false := by simpa using (by omega : (y.1 : Int) < 4294967296)
          have g1' : decide ((y.1 : Int) ≥ 4294967296) = false := g1
          by_cases hBy : p1y ≤ p3y
          · have g2 : decide ((p3y : Int) < (p1y : Int)) = false := by simpa using (by omega : (p1y : Int) ≤ p3y)
            have g2' : decide ((p1y : Int) > (p3y : Int)) = false := g2
            have hxq : y.1 = Q2 := dgy.1 hBy
            rw [hxq] at g1 g1' w1y
            simp only [fr, ↓RP, RS, Int.reduceBEq, Int.reduceBNe, Int.reduceLT, Int.reduceLE, Int.reduceAdd, Int.reduceSub, ↓reduceIte, Nat.reduceAdd, Nat.reduceMul, Nat.reduceSub, Nat.reduceLT, Nat.reduceLeDiff, Nat.reduceEqDiff, decide_true, decide_false, fieldAddrF, undE, tupE, g1, g1', w1y, w2y, w3y, g2, g2', hxq]
            exact exit_k () trivial (by kernel_rfl) rfl
          · have hCy : p3y < p1y := by omega
            have g2 : decide ((p3y : Int) < (p1y : Int)) = true := by simpa using (by omega : (p3y : Int) < p1y)
            have g2' : decide ((p1y : Int) > (p3y : Int)) = true := g2
            have hq1y := dgy.2.1 (.inr hCy)
            have w4y : IntKind.u64.wrap ((y.1 : Int) - 1) = ((ky : Nat) : Int) := w_sub y.1 1 ky (by omega) (by omega)
            by_cases hDy : 4294967296 ≤ r2y
            · have g3 : decide ((4294967296 : Int) ≤ (r2y : Int)) = true := by simpa using (by omega : (4294967296 : Int) ≤ r2y)
              have g3' : decide ((r2y : Int) ≥ 4294967296) = true := g3
              have hkq : ky = Q2 := by have := dgy.2.2 (.inr hCy) (by omega); omega
              rw [hkq] at w4y
              simp only [fr, ↓RP, RS, Int.reduceBEq, Int.reduceBNe, Int.reduceLT, Int.reduceLE, Int.reduceAdd, Int.reduceSub, ↓reduceIte, Nat.reduceAdd, Nat.reduceMul, Nat.reduceSub, Nat.reduceLT, Nat.reduceLeDiff, Nat.reduceEqDiff, decide_true, decide_false, fieldAddrF, undE, tupE, g1, g1', w1y, w2y, w3y, g2, g2', w4y, w5y, g3, g3']
              exact exit_k () trivial (by kernel_rfl) rfl
            · have g3 : decide ((4294967296 : Int) ≤ (r2y : Int)) = false := by simpa using (by omega : (r2y : Int) < 4294967296)
              have g3' : decide ((r2y : Int) ≥ 4294967296) = false := g3
              simp only [fr, ↓RP, RS, Int.reduceBEq, Int.reduceBNe, Int.reduceLT, Int.reduceLE, Int.reduceAdd, Int.reduceSub, ↓reduceIte, Nat.reduceAdd, Nat.reduceMul, Nat.reduceSub, Nat.reduceLT, Nat.reduceLeDiff, Nat.reduceEqDiff, decide_true, decide_false, fieldAddrF, undE, tupE, g1, g1', w1y, w2y, w3y, g2, g2', w4y, w5y, g3, g3']
              refine seqK_n ?_
              have z1 : ky * 4294967295 + r2y = R := by rw [hky, hr2y, Nat.sub_mul]; omega
              exact ⟨(ky, r2y), ⟨z1, by show Q2 ≤ ky; omega, by show ky ≤ 4294967296; omega, by show r2y < 4294967296; omega⟩, by show ky < y.1; omega, by kernel_rfl, rfl⟩
        · have hEy : 4294967296 ≤ y.1 := by omega
          have g1 : decide ((4294967296 : Int) ≤ (y.1 : Int)) = true := by simpa using (by omega : (4294967296 : Int) ≤ y.1)
          have g1' : decide ((y.1 : Int) ≥ 4294967296) = true := g1
          have hq1y := dgy.2.1 (.inl hEy)
          have w4y : IntKind.u64.wrap ((y.1 : Int) - 1) = ((ky : Nat) : Int) := w_sub y.1 1 ky (by omega) (by omega)
          by_cases hDy : 4294967296 ≤ r2y
          · have g3 : decide ((4294967296 : Int) ≤ (r2y : Int)) = true := by simpa using (by omega : (4294967296 : Int) ≤ r2y)
            have g3' : decide ((r2y : Int) ≥ 4294967296) = true := g3
            have hkq : ky = Q2 := by have := dgy.2.2 (.inl hEy) (by omega); omega
            rw [hkq] at w4y
            simp only [fr, ↓RP, RS, Int.reduceBEq, Int.reduceBNe, Int.reduceLT, Int.reduceLE, Int.reduceAdd, Int.reduceSub, ↓reduceIte, Nat.reduceAdd, Nat.reduceMul, Nat.reduceSub, Nat.reduceLT, Nat.reduceLeDiff, Nat.reduceEqDiff, decide_true, decide_false, fieldAddrF, undE, tupE, g1, g1', w4y, w5y, g3, g3']
            exact exit_k () trivial (by kernel_rfl) rfl
          · have g3 : decide ((4294967296 : Int) ≤ (r2y : Int)) = false := by simpa using (by omega : (r2y : Int) < 4294967296)
            have g3' : decide ((r2y : Int) ≥ 4294967296) = false := g3
            simp only [fr, ↓RP, RS, Int.reduceBEq, Int.reduceBNe, Int.reduceLT, Int.reduceLE, Int.reduceAdd, Int.reduceSub, ↓reduceIte, Nat.reduceAdd, Nat.reduceMul, Nat.reduceSub, Nat.reduceLT, Nat.reduceLeDiff, Nat.reduceEqDiff, decide_true, decide_false, fieldAddrF, undE, tupE, g1, g1', w4y, w5y, g3, g3']
            refine seqK_n ?_
            have z1 : ky * 4294967295 + r2y = R := by rw [hky, hr2y, Nat.sub_mul]; omega
            exact ⟨(ky, r2y), ⟨z1, by show Q2 ≤ ky; omega, by show ky ≤ 4294967296; omega, by show r2y < 4294967296; omega⟩, by show ky < y.1; omega, by kernel_rfl, rfl⟩
      · simp only [fr, ↓RP, RS, Int.reduceBEq, Int.reduceBNe, Int.reduceLT, Int.reduceLE, Int.reduceAdd, Int.reduceSub, ↓reduceIte, Nat.reduceAdd, Nat.reduceMul, Nat.reduceSub, Nat.reduceLT, Nat.reduceLeDiff, Nat.reduceEqDiff, decide_true, decide_false, fieldAddrF, undE, tupE, y1, y2, y3, y4, y5, y6, y7]
        refine hK.fin (r := .tup [.d (.int .u64 (b2 : Nat)), .d (.int .u64 (R8 : Nat))]) ?_ (Fin.none0 _ _ rfl) ⟨⟨_, by rw [hfin]⟩, rfl⟩
        simp only [e361, resF, resAll, resOne, List.getD_cons_zero, List.getD_cons_succ]
end Go.Proofs.YteafabpedfgedaaGreatDoor.Am
