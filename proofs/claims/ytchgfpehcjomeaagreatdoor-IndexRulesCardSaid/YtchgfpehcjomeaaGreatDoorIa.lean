/- Walks of the index: bytes of words; maps whose keys are strings; a buffer that is used again. -/
import Derived.Test.YtchgfpehcjomeaaGreatDoorTw
import Derived.IntWalk
set_option linter.unusedSimpArgs false
set_option linter.unusedVariables false
set_option maxRecDepth 10000
set_option maxHeartbeats 2000000
namespace Go.Proofs.YtchgfpehcjomeaaGreatDoor.Am
open Go Go.Proofs

/-! ### letters -/
def letter (b : UInt8) : Option UInt8 :=
  if (97 ≤ b.toNat ∧ b.toNat ≤ 122) ∨ (48 ≤ b.toNat ∧ b.toNat ≤ 57) then some b
  else if 65 ≤ b.toNat ∧ b.toNat ≤ 90 then some (b + 32) else none
def foldR (b : UInt8) : V := match letter b with | some c => .tup [.d (u8D c), .d (.bool true)] | none => .tup [.d (.int .u8 0), .d (.bool false)]
def letR (b : UInt8) : D := match letter b with | some c => u8D c | none => .int .u8 0

noncomputable def foldB (n : Nat) : Bool := match evF Tryz.prog tab 60 24 [.d (u8D (UInt8.ofNat n))] [] with | some (v, []) => vEq v (foldR (UInt8.ofNat n)) | _ => false
theorem foldB_all : (List.range 256).all foldB = true := by kernel_rfl
theorem fold24c (b : UInt8) : callA Tryz.prog 24 [.d (u8D b)] [] fun r σ' => r = foldR b ∧ σ' = [] := by
  have h := List.all_eq_true.1 foldB_all b.toNat (by simp; exact b.toNat_lt)
  unfold foldB at h
  rw [UInt8.ofNat_toNat] at h
  split at h
  · rename_i v hv
    have := vEq_eq _ _ h
    subst this
    exact run_ok tabOk 60 hv
  · cases h
theorem fold24 (b : UInt8) (τ : List Ob) : callA Tryz.prog 24 [.d (u8D b)] τ fun r σ' => r = foldR b ∧ σ' = τ := by
  refine callA_mono (callA_at (fold24c b) τ rfl) fun r σ' ⟨r0, σ0, ⟨h1, h2⟩, h3, h4⟩ => ?_
  subst h1; subst h2; subst h3; subst h4
  refine ⟨?_, by simp⟩
  unfold foldR
  split <;> simp [embV, renV, renVs]
/-! ### maps whose keys are strings -/
abbrev W := List UInt8
theorem keyEq_str (a b : W) : keyEq (.str a) (.str b) = some (a == b) := rfl

def findM (k : W) : List (W × V × Nat) → Option V
  | [] => none
  | (k', x, _) :: r => if k = k' then some x else findM k r
def strM (es : List (W × V × Nat)) : List (D × V × Nat) := es.map fun e => (.str e.1, e.2.1, e.2.2)
def putM (k : W) (x : V) (clk : Nat) : List (W × V × Nat) → List (W × V × Nat)
  | [] => [(k, x, clk)]
  | (k', y, n) :: r => if k = k' then (k, x, n) :: r else (k', y, n) :: putM k x clk r
def delM (k : W) : List (W × V × Nat) → List (W × V × Nat)
  | [] => []
  | (k', y, n) :: r => if k = k' then r else (k', y, n) :: delM k r
def hasM (k : W) (es : List (W × V × Nat)) : Bool := es.any fun e => e.1 == k

theorem findD_str (k : W) : ∀ (es : List (W × V × Nat)) (i : Nat), ∃ j, findD (.str k) (strM es) i = some ((findM k es).map fun x => (j, x))
  | [], i => ⟨0, rfl⟩
  | (k', x, n) :: r, i => by
    simp only [strM, List.map_cons, findD, keyEq_str, findM]
    by_cases h : k = k'
    · subst h; exact ⟨i, by simp⟩
    · have h' : (k == k') = false := by simpa using h
      rw [h', if_neg h]
      exact findD_str k r (i + 1)
theorem putD_str (k : W) (x : V) (clk : Nat) : ∀ (es : List (W × V × Nat)), putD (.str k) x clk (strM es) = some (strM (putM k x clk es), if hasM k es then clk else clk + 1)
  | [] => by simp [strM, putD, putM, hasM]
  | (k', y, n) :: r => by
    have ih := putD_str k x clk r
    simp only [strM] at ih ⊢
    simp only [List.map_cons, putD, keyEq_str, putM]
    by_cases h : k = k'
    · subst h; simp [hasM]
    · have h' : (k == k') = false := by simpa using h
      have h2 : (k' == k) = false := by simpa using fun e => h e.symm
      rw [h', if_neg h]
      simp only [ih, Option.map_some, List.map_cons, hasM, List.any_cons, h2, Bool.false_or]
      rfl
theorem delD_str (k : W) : ∀ (es : List (W × V × Nat)), delD (.str k) (strM es) = some (strM (delM k es))
  | [] => rfl
  | (k', y, n) :: r => by
    have ih := delD_str k r
    simp only [strM] at ih ⊢
    simp only [List.map_cons, delD, keyEq_str, delM]
    by_cases h : k = k'
    · subst h; simp
    · have h' : (k == k') = false := by simpa using h
      rw [h', if_neg h]
      simp [ih]

section
variable {P : Program} {t kt et : TypeId} {σ : List Ob} {o clk : Nat} {es : List (W × V × Nat)}
theorem map_lookup (hm : mapT P t = some (kt, et)) (hk : isStrT P kt = true) (ho : σ[o]? = some (.map (strM es) clk)) (k : W) {x : V} (h : findM k es = some x) : lookupF P t σ (.mp o) (.d (.str k)) false = some x := by
  obtain ⟨j, hj⟩ := findD_str k es 0
  rw [h] at hj
  simp only [lookupF, hm, keyV, keyOk, hk, if_true, ho, hj, Option.map_some, lookupRes, Bool.false_eq_true, if_false]
theorem map_lookup_no (hm : mapT P t = some (kt, et)) (hk : isStrT P kt = true) (ho : σ[o]? = some (.map (strM es) clk)) (k : W) {z : V} (hz : zeroV P et = some z) (h : findM k es = none) : lookupF P t σ (.mp o) (.d (.str k)) false = some z := by
  obtain ⟨j, hj⟩ := findD_str k es 0
  rw [h] at hj
  simp only [lookupF, hm, keyV, keyOk, hk, if_true, ho, hj, Option.map_none, hz, Option.map_some, lookupRes, Bool.false_eq_true, if_false]
theorem map_lookup_nil (hm : mapT P t = some (kt, et)) (hk : isStrT P kt = true) (k : W) {z : V} (hz : zeroV P et = some z) : lookupF P t σ (.d .nilm) (.d (.str k)) false = some z := by
  simp only [lookupF, hm, keyV, keyOk, hk, if_true, hz, Option.map_some, lookupRes, Bool.false_eq_true, if_false]
theorem map_put (hm : mapT P t = some (kt, et)) (hk : isStrT P kt = true) (ho : σ[o]? = some (.map (strM es) clk)) (k : W) (x : V) : mapUpdateF P t σ (.mp o) (.d (.str k)) x = some (σ.set o (.map (strM (putM k x clk es)) (if hasM k es then clk else clk + 1))) := by
  simp only [mapUpdateF, hm, keyV, keyOk, hk, if_true, ho, putD_str, Option.map_some]
theorem map_del (hm : mapT P t = some (kt, et)) (hk : isStrT P kt = true) (ho : σ[o]? = some (.map (strM es) clk)) (k : W) : deleteF P t σ (.mp o) (.d (.str k)) = some (σ.set o (.map (strM (delM k es)) clk)) := by
  simp only [deleteF, hm, keyV, keyOk, hk, if_true, ho, delD_str, Option.map_some]
theorem map_del_nil (hm : mapT P t = some (kt, et)) (hk : isStrT P kt = true) (k : W) : deleteF P t σ (.d .nilm) (.d (.str k)) = some σ := by
  simp only [deleteF, hm, keyV, keyOk, hk, if_true]
end

/-! ### a buffer that is used again -/
def cellQ (q : Option Nat) (len : Nat) : V := match q with | none => .d .nils | some q => .sl q 0 len
def ArrB (σ : List Ob) (q : Option Nat) (ds : List D) : Prop := match q with | none => ds = [] | some q => ∃ mk junk, σ[q]? = some (.arr 1 mk (ds ++ junk))

theorem ArrB.keep {σ σ' : List Ob} {q : Option Nat} {ds : List D} (h : ArrB σ q ds) (hk : ∀ p x, q = some p → σ[p]? = some x → σ'[p]? = some x) : ArrB σ' q ds := by
  cases q with
  | none => exact h
  | some q => obtain ⟨mk, junk, h⟩ := h; exact ⟨mk, junk, hk q _ rfl h⟩

theorem app_buf {σ : List Ob} {q : Option Nat} {ds : List D} {d : D} (h : ArrB σ q ds) (hl : ds.length ≤ 1048576) {t e : TypeId} {b : Nat} (he : elemOfSlice Tryz.prog t = some e) (hk : elemOk Tryz.prog e = true) (hz : szOf Tryz.prog e = 1) (ht : isSliceT Tryz.prog t = true) (hbt : bytesT Tryz.prog e = b) (hb : b ≤ 64) :
    ∃ q' σ', appE Tryz.prog t t (σ ++ [.arr 1 false [d]]) (cellQ q ds.length) (.sl σ.length 0 1) = some (.sl q' 0 (ds.length + 1), σ') ∧ ArrB σ' (some q') (ds ++ [d]) ∧ (q = some q' ∨ σ.length ≤ q') ∧ Keeps (fun o => q = some o) σ σ' := by
  have g1 : (σ ++ [Ob.arr 1 false [d]])[σ.length]? = some (.arr 1 false [d]) := by simp
  have hs : srcD Tryz.prog e (σ ++ [Ob.arr 1 false [d]]) t (.sl σ.length 0 1) = some [d] := src_sl (P := Tryz.prog) (tx := t) (e := e) (off := 0) (len := 1) g1 ht hz (by simp)
  have hbb : (ds.length + 1) * b ≤ 70368744177664 := by
    have : (ds.length + 1) * b ≤ 1048577 * 64 := Nat.mul_le_mul (by omega) hb
    omega
  cases q with
  | none =>
    simp only [ArrB] at h; subst h
    have ap := app_nil (P := Tryz.prog) (t := t) (e := e) he hk hs (b := b) hbt (by simpa using hbb) (by omega)
    rw [hz] at ap
    refine ⟨σ.length + 1, σ ++ [Ob.arr 1 false [d]] ++ [Ob.arr 1 false [d]], by rw [List.length_nil, cellQ, ap]; simp, ⟨false, [], ?_⟩, .inr (by omega), ?_⟩
    · rw [List.getElem?_append_right (by simp)]; simp
    · rw [List.append_assoc]; exact Keeps.app _ _ _
  | some q =>
    obtain ⟨mk, junk, ho⟩ := h
    have ho' : (σ ++ [Ob.arr 1 false [d]])[q]? = some (.arr 1 mk (ds ++ junk)) := app_get ho _
    have hql := lt_of_get ho
    cases junk with
    | nil =>
      rw [List.append_nil] at ho'
      have ap := app_new (P := Tryz.prog) (t := t) (e := e) (tx := t) (off := 0) (len := ds.length) (src := .sl σ.length 0 1) (ds := [d]) ho' he hk hz hs (by simp) (by simp) (b := b) hbt (by simpa using hbb) (by omega)
      rw [List.drop_zero, List.take_length] at ap
      refine ⟨_, _, by rw [cellQ, ap]; rfl, ⟨mk, [], ?_⟩, .inr (by simp), ?_⟩
      · rw [List.getElem?_append_right (by simp)]; simp
      · exact ((Keeps.app (fun o => some q = some o) σ _).trans (Keeps.set (S := fun o => some q = some o) _ _ rfl) (fun _ _ h => h)).trans (Keeps.app _ _ _) (fun _ _ h => h)
    | cons x junk =>
      have ap := app_in (P := Tryz.prog) (t := t) (e := e) (tx := t) (off := 0) (len := ds.length) (src := .sl σ.length 0 1) (ds := [d]) ho' he hk hz hs (by simp)
      rw [Nat.zero_add, over_app] at ap
      refine ⟨q, _, by rw [cellQ, ap]; rfl, ⟨mk, junk, ?_⟩, .inl rfl, ?_⟩
      · rw [List.getElem?_set_self (lt_of_get ho')]; simp
      · exact (Keeps.app (fun o => some q = some o) σ _).trans (Keeps.set (S := fun o => some q = some o) _ _ rfl) (fun _ _ h => h)

/-! ### the words of a text -/
def addW (w : W) (acc : List W) : List W := if w ∈ acc then acc else acc ++ [w]
def flush (cur : W) (acc : List W) : List W := if cur = [] then acc else addW cur acc
/-- A byte, or the end. -/
def stepW (x : W × List W) (b : Option UInt8) : W × List W := match b.bind letter with | some c => (x.1 ++ [c], x.2) | none => ([], flush x.1 x.2)
def scanW (s : W) : W × List W := (s.map some ++ [none]).foldl stepW ([], [])

/-- The map of the words, in the order in which they came. -/
def entsW (acc : List W) : List (W × V × Nat) := acc.zipIdx.map fun p => (p.1, .d (.bool true), p.2)
theorem hasM_ents (w : W) (acc : List W) : hasM w (entsW acc) = decide (w ∈ acc) := by
  unfold hasM entsW
  rw [List.any_map]
  have : (acc.zipIdx.any ((fun e : W × V × Nat => e.1 == w) ∘ fun p => (p.1, V.d (.bool true), p.2))) = acc.any (· == w) := by
    have h1 : acc = acc.zipIdx.map Prod.fst := by simp
    conv => rhs; rw [h1]
    rw [List.any_map]; rfl
  rw [this, Bool.eq_iff_iff]
  simp
theorem putM_new (w : W) (x : V) (n : Nat) : ∀ (es : List (W × V × Nat)), hasM w es = false → putM w x n es = es ++ [(w, x, n)]
  | [], _ => rfl
  | (k, y, m) :: r, h => by
    simp only [hasM, List.any_cons, Bool.or_eq_false_iff, beq_eq_false_iff_ne, ne_eq] at h
    have hne : ¬ w = k := fun e => h.1 e.symm
    have h2 : hasM w r = false := h.2
    simp only [putM, if_neg hne, putM_new w x n r h2, List.cons_append]
theorem putM_old (w : W) (x : V) (n : Nat) : ∀ (es : List (W × V × Nat)), findM w es = some x → putM w x n es = es
  | [], h => by cases h
  | (k, y, m) :: r, h => by
    simp only [findM] at h
    simp only [putM]
    split at h
    · rename_i e; subst e; cases h; rw [if_pos rfl]
    · rename_i e; rw [if_neg e, putM_old w x n r h]
theorem findM_has (w : W) (x : V) : ∀ (es : List (W × V × Nat)), hasM w es = true → (∀ e ∈ es, e.2.1 = x) → findM w es = some x
  | [], h, _ => by simp [hasM] at h
  | (k, y, m) :: r, h, hx => by
    simp only [findM]
    by_cases e : w = k
    · rw [if_pos e]; have := hx (k, y, m) (by simp); simp only at this; rw [this]
    · rw [if_neg e]
      refine findM_has w x r ?_ (fun e he => hx e (by simp [he]))
      simp only [hasM, List.any_cons, Bool.or_eq_true, beq_iff_eq] at h
      rcases h with h | h
      · exact (e h.symm).elim
      · exact h
theorem ents_put (w : W) (acc : List W) : putM w (.d (.bool true)) acc.length (entsW acc) = entsW (addW w acc) ∧ (if hasM w (entsW acc) then acc.length else acc.length + 1) = (addW w acc).length := by
  by_cases h : w ∈ acc
  · have h1 : hasM w (entsW acc) = true := by rw [hasM_ents]; simpa using h
    have e : addW w acc = acc := by simp [addW, h]
    rw [putM_old _ _ _ _ (findM_has w _ _ h1 fun e he => by obtain ⟨p, _, rfl⟩ := List.mem_map.1 he; rfl), h1, e]
    exact ⟨rfl, rfl⟩
  · have h1 : hasM w (entsW acc) = false := by rw [hasM_ents]; simpa using h
    have e : addW w acc = acc ++ [w] := by simp [addW, h]
    rw [putM_new _ _ _ _ h1, h1, e]
    refine ⟨?_, by simp⟩
    simp [entsW, List.zipIdx_append]
end Go.Proofs.YtchgfpehcjomeaaGreatDoor.Am
