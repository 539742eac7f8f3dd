/- slices.Sorted over the keys of a map, by the shelf's contracts: the layings in plain words (lay.py), and the lift. -/
import Derived.Test.YtjidelngljpbdaaIa
import Derived.Test.YtjidelngljpbdaaAmB
import Derived.Shelf.SlIter.Nil
import Derived.Shelf.SortM.Plain
import Derived.Shelf.SortM.SortNone
set_option linter.unusedSimpArgs false
set_option linter.unusedVariables false
set_option maxRecDepth 10000
set_option maxHeartbeats 2000000
namespace Go.Proofs.Ytjidelngljpbdaa.Am
open Go Go.Proofs Go.RowKit Go.Maps Go.Sort Go.Shelf
open Go.WideElems (Fit rd rg)

def keysA_ren : Go.Shelf.Ren := ⟨fun | 7 => 26 | 10 => 30 | n => n, fun | 23 => 49 | 26 => 9 | 3 => 4 | 28 => 54 | 0 => 0 | 27 => 53 | 33 => 64 | 4 => 4 | n => n, fun | n => n⟩
theorem keysA : SlLaysZ.n7 Try.prog keysA_ren := {
  mixed := (by kernel_rfl),
  f7 := ⟨Try.f26.name, by decide, Try.func26.trans (congrArg some (by kernel_rfl))⟩,
  f10 := ⟨Try.f30.name, by decide, Try.func30.trans (congrArg some (by kernel_rfl))⟩,
  t0 := Try.underlying0,
  a0 := Try.isAgg0,
  z0 := Try.sizeOf0,
  v0 := Try.zeroValue0,
  t4 := Try.underlying4,
  a4 := Try.isAgg4,
  z4 := Try.sizeOf4,
  v4 := Try.zeroValue4,
  t23 := Try.underlying49,
  a23 := Try.isAgg49,
  z23 := Try.sizeOf49,
  v23 := Try.zeroValue49,
  t26 := Try.underlying9,
  a26 := Try.isAgg9,
  z26 := Try.sizeOf9,
  v26 := Try.zeroValue9,
  t27 := Try.underlying53,
  a27 := Try.isAgg53,
  z27 := Try.sizeOf53,
  v27 := Try.zeroValue53,
  t28 := Try.underlying54,
  a28 := Try.isAgg54,
  z28 := Try.sizeOf54,
  v28 := Try.zeroValue54,
  t33 := Try.underlying64,
  a33 := Try.isAgg64,
  z33 := Try.sizeOf64,
  v33 := Try.zeroValue64 }
def sortedA_ren : Go.Shelf.Ren := ⟨fun | 6 => 25 | 8 => 29 | 9 => 28 | 11 => 33 | 13 => 32 | 12 => 31 | 23 => 43 | 24 => 44 | 14 => 34 | 15 => 35 | 16 => 36 | 17 => 37 | 18 => 38 | 19 => 39 | 20 => 40 | 21 => 41 | 22 => 42 | 25 => 45 | 26 => 46 | 27 => 47 | 28 => 48 | 29 => 49 | 30 => 50 | 31 => 51 | n => n, fun | 26 => 9 | 28 => 54 | 24 => 23 | 0 => 0 | 3 => 3 | 37 => 67 | 48 => 79 | 50 => 81 | 4 => 4 | 40 => 71 | 39 => 70 | 45 => 76 | 5 => 5 | 9 => 9 | 51 => 82 | 55 => 86 | 57 => 88 | 58 => 89 | 33 => 64 | n => n, fun | n => n⟩
theorem sortedA : SlLaysZ.n6 Try.prog sortedA_ren := {
  mixed := (by kernel_rfl),
  f6 := ⟨Try.f25.name, by decide, Try.func25.trans (congrArg some (by kernel_rfl))⟩,
  f8 := ⟨Try.f29.name, by decide, Try.func29.trans (congrArg some (by kernel_rfl))⟩,
  f11 := ⟨Try.f33.name, by decide, Try.func33.trans (congrArg some (by kernel_rfl))⟩,
  t0 := Try.underlying0,
  a0 := Try.isAgg0,
  z0 := Try.sizeOf0,
  v0 := Try.zeroValue0,
  t24 := Try.underlying23,
  a24 := Try.isAgg23,
  z24 := Try.sizeOf23,
  v24 := Try.zeroValue23,
  t26 := Try.underlying9,
  a26 := Try.isAgg9,
  z26 := Try.sizeOf9,
  v26 := Try.zeroValue9,
  t28 := Try.underlying54,
  a28 := Try.isAgg54,
  z28 := Try.sizeOf54,
  v28 := Try.zeroValue54,
  i26 := (by kernel_rfl) }
def sortA_ren : Go.Shelf.Ren := ⟨fun | 6 => 28 | 8 => 32 | 9 => 31 | 19 => 43 | 20 => 44 | 21 => 34 | 22 => 35 | 23 => 36 | 24 => 37 | 25 => 38 | 26 => 39 | 27 => 40 | 28 => 41 | 29 => 42 | 36 => 45 | 31 => 46 | 32 => 47 | 37 => 48 | 38 => 49 | 39 => 50 | 41 => 51 | n => n, fun | 27 => 23 | 29 => 9 | 3 => 3 | 32 => 67 | 26 => 23 | 0 => 0 | 44 => 79 | 46 => 81 | 4 => 4 | 36 => 71 | 35 => 70 | 41 => 76 | 5 => 5 | 9 => 9 | 53 => 82 | 57 => 86 | 63 => 88 | 64 => 89 | n => n, fun | n => n⟩
theorem sortA : SlLaysM.n6 Try.prog sortA_ren := {
  mixed := (by kernel_rfl),
  f6 := ⟨Try.f28.name, by decide, Try.func28.trans (congrArg some (by kernel_rfl))⟩,
  f8 := Try.func32.trans (congrArg some (by kernel_rfl)),
  f9 := ⟨Try.f31.name, by decide, Try.func31.trans (congrArg some (by kernel_rfl))⟩,
  f19 := Try.func43.trans (congrArg some (by kernel_rfl)),
  f20 := Try.func44.trans (congrArg some (by kernel_rfl)),
  f21 := ⟨Try.f34.name, by decide, Try.func34.trans (congrArg some (by kernel_rfl))⟩,
  f22 := ⟨Try.f35.name, by decide, Try.func35.trans (congrArg some (by kernel_rfl))⟩,
  f23 := ⟨Try.f36.name, by decide, Try.func36.trans (congrArg some (by kernel_rfl))⟩,
  f24 := ⟨Try.f37.name, by decide, Try.func37.trans (congrArg some (by kernel_rfl))⟩,
  f25 := ⟨Try.f38.name, by decide, Try.func38.trans (congrArg some (by kernel_rfl))⟩,
  f26 := ⟨Try.f39.name, by decide, Try.func39.trans (congrArg some (by kernel_rfl))⟩,
  f27 := ⟨Try.f40.name, by decide, Try.func40.trans (congrArg some (by kernel_rfl))⟩,
  f28 := ⟨Try.f41.name, by decide, Try.func41.trans (congrArg some (by kernel_rfl))⟩,
  f29 := ⟨Try.f42.name, by decide, Try.func42.trans (congrArg some (by kernel_rfl))⟩,
  f31 := Try.func46.trans (congrArg some (by kernel_rfl)),
  f32 := Try.func47.trans (congrArg some (by kernel_rfl)),
  f36 := ⟨Try.f45.name, by decide, Try.func45.trans (congrArg some (by kernel_rfl))⟩,
  f37 := ⟨Try.f48.name, by decide, Try.func48.trans (congrArg some (by kernel_rfl))⟩,
  f38 := ⟨Try.f49.name, by decide, Try.func49.trans (congrArg some (by kernel_rfl))⟩,
  f39 := ⟨Try.f50.name, by decide, Try.func50.trans (congrArg some (by kernel_rfl))⟩,
  f41 := ⟨Try.f51.name, by decide, Try.func51.trans (congrArg some (by kernel_rfl))⟩,
  t0 := Try.underlying0,
  a0 := Try.isAgg0,
  z0 := Try.sizeOf0,
  v0 := Try.zeroValue0,
  t3 := Try.underlying3,
  a3 := Try.isAgg3,
  z3 := Try.sizeOf3,
  v3 := Try.zeroValue3,
  t4 := Try.underlying4,
  a4 := Try.isAgg4,
  z4 := Try.sizeOf4,
  v4 := Try.zeroValue4,
  t5 := Try.underlying5,
  a5 := Try.isAgg5,
  z5 := Try.sizeOf5,
  v5 := Try.zeroValue5,
  t9 := Try.underlying9,
  a9 := Try.isAgg9,
  z9 := Try.sizeOf9,
  v9 := Try.zeroValue9,
  t26 := Try.underlying23,
  a26 := Try.isAgg23,
  z26 := Try.sizeOf23,
  v26 := Try.zeroValue23,
  t27 := Try.underlying23,
  a27 := Try.isAgg23,
  z27 := Try.sizeOf23,
  v27 := Try.zeroValue23,
  t29 := Try.underlying9,
  a29 := Try.isAgg9,
  z29 := Try.sizeOf9,
  v29 := Try.zeroValue9,
  t32 := Try.underlying67,
  a32 := Try.isAgg67,
  z32 := Try.sizeOf67,
  v32 := Try.zeroValue67,
  t35 := Try.underlying70,
  a35 := Try.isAgg70,
  z35 := Try.sizeOf70,
  v35 := Try.zeroValue70,
  t36 := Try.underlying71,
  a36 := Try.isAgg71,
  z36 := Try.sizeOf71,
  v36 := Try.zeroValue71,
  t41 := Try.underlying76,
  a41 := Try.isAgg76,
  z41 := Try.sizeOf76,
  v41 := Try.zeroValue76,
  t44 := Try.underlying79,
  a44 := Try.isAgg79,
  z44 := Try.sizeOf79,
  v44 := Try.zeroValue79,
  t46 := Try.underlying81,
  a46 := Try.isAgg81,
  z46 := Try.sizeOf81,
  v46 := Try.zeroValue81,
  t53 := Try.underlying82,
  a53 := Try.isAgg82,
  z53 := Try.sizeOf82,
  v53 := Try.zeroValue82,
  t57 := Try.underlying86,
  a57 := Try.isAgg86,
  z57 := Try.sizeOf86,
  v57 := Try.zeroValue86,
  t63 := Try.underlying88,
  a63 := Try.isAgg88,
  z63 := Try.sizeOf88,
  v63 := Try.zeroValue88,
  t64 := Try.underlying89,
  a64 := Try.isAgg89,
  z64 := Try.sizeOf89,
  v64 := Try.zeroValue89 }

theorem sortsA (m : Nat) : AnyZ.SortsIn Try.prog sortedA_ren Fence.wide m :=
  ⟨fun blk off cap ss W hH hblk hsz => callsIn_wide.2 (AnyM.slices_Sort_string sortA blk off cap ss W hH hblk hsz),
   fun p cap W => callsIn_wide.2 (AnyM.slices_Sort_string_none sortA p cap W)⟩

/-- A call that turns nothing that was there. -/
theorem Ext.below {c : Cx} {w' : World} (h : Below c.w.heap.size c.w w') {σ : List Ob} (hs : SR c σ) : Ext c ⟨w', c.loc, c.hid⟩ ∧ SR ⟨w', c.loc, c.hid⟩ σ := by
  have hE : Ext c ⟨w', c.loc, c.hid⟩ := by
    refine ⟨rfl, h.size, fun b cs e f hb => ⟨cs, f, ?_, rfl⟩, fun b hb ho => ⟨h.block b hb, ho⟩, fun _ => .inl rfl, h.os, h.tape, h.output⟩
    rw [h.block b (Array.getElem?_eq_some_iff.1 hb).1]; exact hb
  refine ⟨hE, fun o => ?_, fun e e' => hs.inj e e', hs.hid_ext hE⟩
  have r := hs.obj o
  show ORo _ (c.loc o) _
  cases hx : σ[o]? with
  | none => rw [hx] at r; exact r
  | some x => rw [hx] at r; exact OR.keep hE r fun b base sz e => h.block b (hs.lt e)

theorem insert_perm {H : Type} (x : Lit × DataW H) : ∀ l : List (Lit × DataW H), (DataW.insert x l).Perm (x :: l)
  | [] => .refl _
  | y :: r => by
    simp only [DataW.insert]
    split
    · exact .refl _
    · exact ((insert_perm x r).cons y).trans (.swap x y r)
theorem foldr_perm {H : Type} : ∀ l : List (Lit × DataW H), (l.foldr DataW.insert []).Perm l
  | [] => .refl _
  | x :: r => (insert_perm x _).trans ((foldr_perm r).cons x)

def nilR : Value → Option (DataW Unit × List MemPlace) := fun _ => some (.nil, [])

theorem rd_key' {I : Im} {k : W} {e : MapEntry} (h : DR I (.str k) e.key) (hl : k.length ≤ maxLen) : rd Try.prog 9 nilR e = some (.string k, .nil) := by
  simp only [DR] at h
  have := Go.WideMaps.keyOf_string_mk (P := Try.prog) (k := 9) Try.underlying9 (s := ⟨k.toArray⟩) (by show k.toArray.size ≤ _; simpa using hl)
  simp only [Go.WideElems.rd, h, this, nilR, Option.bind_some, Option.map_some]

theorem keys_ents {I : Im} {w : World} {loc : Nat → Loc} {es : List (W × V × Nat)} {l : List MapEntry} (m : MapR I w loc (strM es) l) (hl : ∀ e ∈ es, e.1.length ≤ maxLen) : (l.map (rg Try.prog 9 nilR)).map (fun p => strOf p.1) = es.map (·.1) ∧ ∀ x ∈ l, ∃ y, rd Try.prog 9 nilR x = some y := by
  induction es generalizing l with
  | nil => cases m; exact ⟨rfl, fun x hx => by simp at hx⟩
  | cons e es ih =>
    obtain ⟨k, x, n⟩ := e
    cases m with
    | @cons _ _ _ e0 _ l0 a b c m =>
      obtain ⟨h1, h2⟩ := ih m (fun e he => hl e (by simp [he]))
      have hr := rd_key' a (hl (k, x, n) (by simp))
      refine ⟨?_, fun y hy => ?_⟩
      · have hg : rg Try.prog 9 nilR e0 = (.string k, .nil) := by unfold rg; rw [hr]; rfl
        rw [List.map_cons, List.map_cons, h1, hg]; rfl
      · rcases List.mem_cons.1 hy with rfl | hy
        · exact ⟨_, hr⟩
        · exact h2 y hy

theorem born_ents {I : Im} {w : World} {loc : Nat → Loc} {es : List (D × V × Nat)} {l : List MapEntry} (m : MapR I w loc es l) : l.map (·.born) = es.map (·.2.2) := by
  induction m with
  | nil => rfl
  | cons _ _ h _ ih => simp [h, ih]

theorem key_vals {I : Im} {w : World} {loc : Nat → Loc} {es : List (W × V × Nat)} {l : List MapEntry} (m : MapR I w loc (strM es) l) : l.map (·.key) = (es.map (·.1)).map encStr := by
  induction es generalizing l with
  | nil => cases m; rfl
  | cons e es ih =>
    obtain ⟨k, x, n⟩ := e
    cases m with
    | cons a b c m =>
      simp only [List.map_cons, ih m]
      simp only [DR] at a
      rw [a]
theorem keys_nodup {I : Im} {w : World} {loc : Nat → Loc} {es : List (W × V × Nat)} {l : List MapEntry} (m : MapR I w loc (strM es) l) (h : (es.map (·.1)).Nodup) : (l.map (·.key)).Nodup := by
  rw [key_vals m]
  exact List.pairwise_map.2 (h.imp fun hne e => hne (encStr_inj e))

/-- A row of strings that the call has laid, as data. -/
theorem row_data {c : Cx} {σ : List Ob} (hs : SR c σ) {w' : World} {v : Value} {ws : List W} (hrow : w'.ownsRow c.w.heap.size 9 1 v ws.length (ws.map encStr)) : DR (Cx.im ⟨w', c.loc, c.hid⟩) (.lst 1 (ws.map .str)) v := by
  obtain ⟨_, h | ⟨g, cap, cur, rfl, hg, hc, h1, h2, h3, h4⟩⟩ := hrow
  · obtain ⟨rfl, h0⟩ := h
    have : ws = [] := List.length_eq_zero_iff.1 h0
    subst this
    simp only [DR]
    exact ⟨none, 0, rfl, Nat.le_refl _, .inl rfl⟩
  · simp only [DR]
    refine ⟨_, cap, by simp, by simpa using h1, .inr ⟨g, 0, rfl, by omega, ⟨(Array.getElem?_eq_some_iff.1 hc).1, ?_, ?_⟩, ?_⟩⟩
    · rintro ⟨o, base, sz, e⟩
      have := hs.lt e
      omega
    · intro hh
      have := (hs.hid g hh).1
      omega
    · refine RowsR_of_get fun i d e => ?_
      rw [List.getElem?_map] at e
      cases hx : ws[i]? with
      | none => rw [hx] at e; cases e
      | some x =>
        rw [hx] at e; simp at e; subst e
        have hi := (List.getElem?_eq_some_iff.1 hx).1
        refine ⟨encStr x, by simp [DR, encStr], ⟨rfl, by simp [encStr, Value.cells, Value.oneCell']⟩, fun j hj => ?_⟩
        have hj0 : j = 0 := by omega
        subst hj0
        simp only [Nat.mul_one, Nat.zero_add, Nat.add_zero]
        show World.cell? w' ⟨g, i, none⟩ = _
        simp only [World.cell?, hc]
        have h5 : (cur.toList.take (ws.length * 1))[i]? = some (encStr x) := by rw [h4, List.getElem?_map, hx]; rfl
        rw [List.getElem?_take, if_pos (by omega), Array.getElem?_toList] at h5
        simp [h5, encStr, Value.cells]

theorem callA_intro' {P : Program} {f : FuncId} {args : List V} {σ : List Ob} {K : V → List Ob → Prop} (h1 : callable P f) (h : ∀ (c : Cx) (vals : List Value), SR c σ → c.vrs args vals → Calls P f vals.toArray c.w (CallPost c K)) : callA P f args σ K := ⟨h1, h⟩

set_option maxHeartbeats 4000000 in
theorem sorted25 {σ : List Ob} {b o clk : Nat} {es : List (W × V × Nat)} (hb : σ[b]? = some (.box [.mp o])) (ho : σ[o]? = some (.map (strM es) clk)) (hnd : (es.map (·.1)).Nodup) (hl : es.length ≤ 1048576) (hk : ∀ e ∈ es, e.1.length ≤ 1048576) :
    callA Try.prog 25 [.fn 30 [.ptr b 0 0]] σ fun r σ' => r = .d (.lst 1 (((es.map (·.1)).mergeSort leB).map .str)) ∧ σ' = σ := by
  refine callA_intro' ⟨Try.f25, Try.func25, by kernel_rfl, by kernel_rfl⟩ fun c vals hs hv => ?_
  simp only [Cx.vrs, VRs, VR] at hv
  obtain ⟨v0, t0, rfl, ⟨vs, rfl, v1, t1, rfl, h1, rfl⟩, rfl⟩ := hv
  obtain ⟨blk, sz, hlb, arr, e, f, g1, g2, g3⟩ := hs.get hb
  rw [hlb] at h1
  simp only [Nat.zero_mul, Nat.add_zero, Nat.zero_add] at h1
  subst h1
  simp only [Cx.vrs, VRs] at g3
  obtain ⟨v2, t2, g4, g5, rfl⟩ := g3
  obtain ⟨mb, ents, hlm, rfl, m1, m2, m3, m4⟩ := map_at hs ho g5
  have hl1 : es.length ≤ maxLen := Nat.le_trans hl (by decide)
  have hk1 : ∀ e ∈ es, e.1.length ≤ maxLen := fun e he => Nat.le_trans (hk e he) (by decide)
  obtain ⟨k1, k2⟩ := keys_ents m2 hk1
  have hsz : ents.size = es.length := by have := m2.length; simpa [strM] using this
  obtain ⟨D0, hD0⟩ : ∃ D0 : DataW Unit, D0 = .map ((ents.toList.map (rg Try.prog 9 nilR)).foldr DataW.insert []) := ⟨_, rfl⟩
  have hperm : (strKeys D0).Perm (es.map (·.1)) := by
    rw [hD0, ← k1]
    exact (foldr_perm _).map _
  have hsize : Maps.size D0 = es.length := by
    have := hperm.length_eq
    rw [hD0] at this ⊢
    simp only [strKeys, List.length_map] at this
    simpa [Maps.size] using this
  have hown : c.w.ownsMap Try.prog 9 nilR mb es.length D0 := ⟨ents, clk, m1, ⟨by rw [hsz]; exact hl1, ?_, k2⟩, by rw [hsz]; exact Nat.le_refl _, hD0⟩
  rotate_left
  · have hb := born_ents m2
    refine ⟨fun x hx => ?_, by rw [hb]; exact m3, keys_nodup m2 hnd⟩
    have : x.born ∈ ents.toList.map (·.born) := List.mem_map.2 ⟨x, hx, rfl⟩
    rw [hb] at this
    obtain ⟨y, hy, hy2⟩ := List.mem_map.1 this
    rw [← hy2]; exact m4 y hy
  · have hcell : c.w.cell? ⟨blk, 0, none⟩ = some (.map (some mb)) := by
      have : arr = #[.map (some mb)] := by apply Array.ext'; simpa using g4
      simp [World.cell?, g1, this]
    have hseq : SeqGives Fence.wide 2 Try.prog 30 #[.pointer (some ⟨blk, 0, none⟩)] encStr (fun ss => ss.Perm (strKeys D0)) (Maps.size D0) c.w :=
      AnyZ.keys_gives (ρ := keysA_ren) { keysA with } Fence.wide _ trivial rfl (by omega) blk mb es.length D0 _ (Array.getElem?_eq_some_iff.1 g1).1 hcell hown
    have cS := AnyZ.sorted_in sortedA Fence.wide 5 trivial trivial trivial trivial rfl (by omega) (sortsA _) (enters_of Try.func28 (by kernel_rfl) rfl) 30 #[.pointer (some ⟨blk, 0, none⟩)] trivial (enters_of Try.func30 (by kernel_rfl) rfl) _ _ (by rw [hsize]; exact hl1) (by rw [hsize]; omega) _ hseq
    refine (callsIn_wide.1 cS).mono fun e w' hp => ?_
    obtain ⟨v, ss, rfl, p1, p2, p3, p4⟩ := hp
    obtain ⟨hE, hS⟩ := Ext.below p4 hs
    have hsort : ss.mergeSort (fun x y => decide (x ≤ y)) = (es.map (·.1)).mergeSort leB := mergeSort_of_perm (p1.trans hperm)
    refine ⟨c.loc, σ, _, hS, hE, ?_, rfl, rfl⟩
    simp only [Cx.vr, VR]
    refine row_data hs ?_
    rw [← hsort, List.length_mergeSort]
    exact p2
end Go.Proofs.Ytjidelngljpbdaa.Am
