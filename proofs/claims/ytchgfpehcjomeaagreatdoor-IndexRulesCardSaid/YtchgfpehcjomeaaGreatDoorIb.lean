/- slices.Sorted over the keys of a map, by the shelf's contracts: the layings in plain words (lay.py), and the lift. -/
import Derived.Test.YtchgfpehcjomeaaGreatDoorIa
import Derived.Test.YtchgfpehcjomeaaGreatDoorAmB
import Derived.Shelf.SlIter.Nil
import Derived.Shelf.SortM.Plain
import Derived.Shelf.SortM.SortNone
set_option linter.unusedSimpArgs false
set_option linter.unusedVariables false
set_option maxRecDepth 10000
set_option maxHeartbeats 2000000
namespace Go.Proofs.YtchgfpehcjomeaaGreatDoor.Am
open Go Go.Proofs Go.RowKit Go.Maps Go.Sort Go.Shelf
open Go.WideElems (Fit rd rg)

def keysA_ren : Go.Shelf.Ren := ⟨fun | 7 => 26 | 10 => 56 | n => n, fun | 23 => 73 | 26 => 9 | 3 => 4 | 28 => 79 | 0 => 0 | 27 => 78 | 33 => 133 | 4 => 4 | n => n, fun | n => n⟩
theorem keysA : SlLaysZ.n7 Tryz.prog keysA_ren := {
  mixed := (by kernel_rfl),
  f7 := ⟨Tryz.f26.name, by decide, Tryz.func26.trans (congrArg some (by kernel_rfl))⟩,
  f10 := ⟨Tryz.f56.name, by decide, Tryz.func56.trans (congrArg some (by kernel_rfl))⟩,
  t0 := Tryz.underlying0,
  a0 := Tryz.isAgg0,
  z0 := Tryz.sizeOf0,
  v0 := Tryz.zeroValue0,
  t4 := Tryz.underlying4,
  a4 := Tryz.isAgg4,
  z4 := Tryz.sizeOf4,
  v4 := Tryz.zeroValue4,
  t23 := Tryz.underlying73,
  a23 := Tryz.isAgg73,
  z23 := Tryz.sizeOf73,
  v23 := Tryz.zeroValue73,
  t26 := Tryz.underlying9,
  a26 := Tryz.isAgg9,
  z26 := Tryz.sizeOf9,
  v26 := Tryz.zeroValue9,
  t27 := Tryz.underlying78,
  a27 := Tryz.isAgg78,
  z27 := Tryz.sizeOf78,
  v27 := Tryz.zeroValue78,
  t28 := Tryz.underlying79,
  a28 := Tryz.isAgg79,
  z28 := Tryz.sizeOf79,
  v28 := Tryz.zeroValue79,
  t33 := Tryz.underlying133,
  a33 := Tryz.isAgg133,
  z33 := Tryz.sizeOf133,
  v33 := Tryz.zeroValue133 }
def sortedA_ren : Go.Shelf.Ren := ⟨fun | 6 => 25 | 8 => 55 | 9 => 27 | 11 => 81 | 13 => 58 | 12 => 57 | 23 => 91 | 24 => 92 | 14 => 82 | 15 => 83 | 16 => 84 | 17 => 85 | 18 => 86 | 19 => 87 | 20 => 88 | 21 => 89 | 22 => 90 | 25 => 113 | 26 => 114 | 27 => 115 | 28 => 116 | 29 => 117 | 30 => 118 | 31 => 127 | n => n, fun | 26 => 9 | 28 => 79 | 24 => 35 | 0 => 0 | 3 => 3 | 37 => 142 | 48 => 170 | 50 => 172 | 4 => 4 | 40 => 164 | 39 => 163 | 45 => 121 | 5 => 5 | 9 => 9 | 51 => 187 | 55 => 191 | 57 => 196 | 58 => 197 | 33 => 133 | n => n, fun | n => n⟩
theorem sortedA : SlLaysZ.n6 Tryz.prog sortedA_ren := {
  mixed := (by kernel_rfl),
  f6 := ⟨Tryz.f25.name, by decide, Tryz.func25.trans (congrArg some (by kernel_rfl))⟩,
  f8 := ⟨Tryz.f55.name, by decide, Tryz.func55.trans (congrArg some (by kernel_rfl))⟩,
  f11 := ⟨Tryz.f81.name, by decide, Tryz.func81.trans (congrArg some (by kernel_rfl))⟩,
  t0 := Tryz.underlying0,
  a0 := Tryz.isAgg0,
  z0 := Tryz.sizeOf0,
  v0 := Tryz.zeroValue0,
  t24 := Tryz.underlying35,
  a24 := Tryz.isAgg35,
  z24 := Tryz.sizeOf35,
  v24 := Tryz.zeroValue35,
  t26 := Tryz.underlying9,
  a26 := Tryz.isAgg9,
  z26 := Tryz.sizeOf9,
  v26 := Tryz.zeroValue9,
  t28 := Tryz.underlying79,
  a28 := Tryz.isAgg79,
  z28 := Tryz.sizeOf79,
  v28 := Tryz.zeroValue79,
  i26 := (by kernel_rfl) }
def sortA_ren : Go.Shelf.Ren := ⟨fun | 6 => 27 | 8 => 58 | 9 => 57 | 19 => 91 | 20 => 92 | 21 => 82 | 22 => 83 | 23 => 84 | 24 => 85 | 25 => 86 | 26 => 87 | 27 => 88 | 28 => 89 | 29 => 90 | 36 => 113 | 31 => 114 | 32 => 115 | 37 => 116 | 38 => 117 | 39 => 118 | 41 => 127 | n => n, fun | 27 => 35 | 29 => 9 | 3 => 3 | 32 => 142 | 26 => 35 | 0 => 0 | 44 => 170 | 46 => 172 | 4 => 4 | 36 => 164 | 35 => 163 | 41 => 121 | 5 => 5 | 9 => 9 | 53 => 187 | 57 => 191 | 63 => 196 | 64 => 197 | n => n, fun | n => n⟩
theorem sortA : SlLaysM.n6 Tryz.prog sortA_ren := {
  mixed := (by kernel_rfl),
  f6 := ⟨Tryz.f27.name, by decide, Tryz.func27.trans (congrArg some (by kernel_rfl))⟩,
  f8 := Tryz.func58.trans (congrArg some (by kernel_rfl)),
  f9 := ⟨Tryz.f57.name, by decide, Tryz.func57.trans (congrArg some (by kernel_rfl))⟩,
  f19 := Tryz.func91.trans (congrArg some (by kernel_rfl)),
  f20 := Tryz.func92.trans (congrArg some (by kernel_rfl)),
  f21 := ⟨Tryz.f82.name, by decide, Tryz.func82.trans (congrArg some (by kernel_rfl))⟩,
  f22 := ⟨Tryz.f83.name, by decide, Tryz.func83.trans (congrArg some (by kernel_rfl))⟩,
  f23 := ⟨Tryz.f84.name, by decide, Tryz.func84.trans (congrArg some (by kernel_rfl))⟩,
  f24 := ⟨Tryz.f85.name, by decide, Tryz.func85.trans (congrArg some (by kernel_rfl))⟩,
  f25 := ⟨Tryz.f86.name, by decide, Tryz.func86.trans (congrArg some (by kernel_rfl))⟩,
  f26 := ⟨Tryz.f87.name, by decide, Tryz.func87.trans (congrArg some (by kernel_rfl))⟩,
  f27 := ⟨Tryz.f88.name, by decide, Tryz.func88.trans (congrArg some (by kernel_rfl))⟩,
  f28 := ⟨Tryz.f89.name, by decide, Tryz.func89.trans (congrArg some (by kernel_rfl))⟩,
  f29 := ⟨Tryz.f90.name, by decide, Tryz.func90.trans (congrArg some (by kernel_rfl))⟩,
  f31 := Tryz.func114.trans (congrArg some (by kernel_rfl)),
  f32 := Tryz.func115.trans (congrArg some (by kernel_rfl)),
  f36 := ⟨Tryz.f113.name, by decide, Tryz.func113.trans (congrArg some (by kernel_rfl))⟩,
  f37 := ⟨Tryz.f116.name, by decide, Tryz.func116.trans (congrArg some (by kernel_rfl))⟩,
  f38 := ⟨Tryz.f117.name, by decide, Tryz.func117.trans (congrArg some (by kernel_rfl))⟩,
  f39 := ⟨Tryz.f118.name, by decide, Tryz.func118.trans (congrArg some (by kernel_rfl))⟩,
  f41 := ⟨Tryz.f127.name, by decide, Tryz.func127.trans (congrArg some (by kernel_rfl))⟩,
  t0 := Tryz.underlying0,
  a0 := Tryz.isAgg0,
  z0 := Tryz.sizeOf0,
  v0 := Tryz.zeroValue0,
  t3 := Tryz.underlying3,
  a3 := Tryz.isAgg3,
  z3 := Tryz.sizeOf3,
  v3 := Tryz.zeroValue3,
  t4 := Tryz.underlying4,
  a4 := Tryz.isAgg4,
  z4 := Tryz.sizeOf4,
  v4 := Tryz.zeroValue4,
  t5 := Tryz.underlying5,
  a5 := Tryz.isAgg5,
  z5 := Tryz.sizeOf5,
  v5 := Tryz.zeroValue5,
  t9 := Tryz.underlying9,
  a9 := Tryz.isAgg9,
  z9 := Tryz.sizeOf9,
  v9 := Tryz.zeroValue9,
  t26 := Tryz.underlying35,
  a26 := Tryz.isAgg35,
  z26 := Tryz.sizeOf35,
  v26 := Tryz.zeroValue35,
  t27 := Tryz.underlying35,
  a27 := Tryz.isAgg35,
  z27 := Tryz.sizeOf35,
  v27 := Tryz.zeroValue35,
  t29 := Tryz.underlying9,
  a29 := Tryz.isAgg9,
  z29 := Tryz.sizeOf9,
  v29 := Tryz.zeroValue9,
  t32 := Tryz.underlying142,
  a32 := Tryz.isAgg142,
  z32 := Tryz.sizeOf142,
  v32 := Tryz.zeroValue142,
  t35 := Tryz.underlying163,
  a35 := Tryz.isAgg163,
  z35 := Tryz.sizeOf163,
  v35 := Tryz.zeroValue163,
  t36 := Tryz.underlying164,
  a36 := Tryz.isAgg164,
  z36 := Tryz.sizeOf164,
  v36 := Tryz.zeroValue164,
  t41 := Tryz.underlying121,
  a41 := Tryz.isAgg121,
  z41 := Tryz.sizeOf121,
  v41 := Tryz.zeroValue121,
  t44 := Tryz.underlying170,
  a44 := Tryz.isAgg170,
  z44 := Tryz.sizeOf170,
  v44 := Tryz.zeroValue170,
  t46 := Tryz.underlying172,
  a46 := Tryz.isAgg172,
  z46 := Tryz.sizeOf172,
  v46 := Tryz.zeroValue172,
  t53 := Tryz.underlying187,
  a53 := Tryz.isAgg187,
  z53 := Tryz.sizeOf187,
  v53 := Tryz.zeroValue187,
  t57 := Tryz.underlying191,
  a57 := Tryz.isAgg191,
  z57 := Tryz.sizeOf191,
  v57 := Tryz.zeroValue191,
  t63 := Tryz.underlying196,
  a63 := Tryz.isAgg196,
  z63 := Tryz.sizeOf196,
  v63 := Tryz.zeroValue196,
  t64 := Tryz.underlying197,
  a64 := Tryz.isAgg197,
  z64 := Tryz.sizeOf197,
  v64 := Tryz.zeroValue197 }

theorem sortsA (m : Nat) : AnyZ.SortsIn Tryz.prog sortedA_ren Fence.wide m :=
  ⟨fun blk off cap ss W hH hblk hsz => callsIn_wide.2 (AnyM.slices_Sort_string sortA blk off cap ss W hH hblk hsz),
   fun p cap W => callsIn_wide.2 (AnyM.slices_Sort_string_none sortA p cap W)⟩

/-- A call that turns nothing that was there. -/
theorem Ext.below {c : Cx} {w' : World} (h : Below c.w.heap.size c.w w') {σ : List Ob} (hs : SR c σ) : Ext c ⟨w', c.loc, c.hid⟩ ∧ SR ⟨w', c.loc, c.hid⟩ σ := by
  have hE : Ext c ⟨w', c.loc, c.hid⟩ := by
    refine ⟨rfl, h.size, fun b cs e f hb => ⟨cs, f, ?_, rfl⟩, fun b hb ho => ⟨h.block b hb, ho⟩, fun _ => .inl rfl, h.os, h.tape, h.output⟩
    rw [h.block b (Array.getElem?_eq_some_iff.1 hb).1]; exact hb
  refine ⟨hE, fun o => ?_, fun e e' => hs.inj e e', hs.hid_ext hE, hE.glob hs.gl⟩
  have r := hs.obj o
  show ORo _ (c.loc o) _
  cases hx : σ[o]? with
  | none => rw [hx] at r; exact r
  | some x => rw [hx] at r; exact OR.keep hE r fun b base sz e => h.block b (hs.lt e)

theorem insert_perm {H : Type} (x : Lit × DataW H) : ∀ l : List (Lit × DataW H), (DataW.insert x l).Perm (x :: l)
  | [] => .refl _
  | y :: r => by
    simp only [DataW.insert]
    split
    · exact .refl _
    · exact ((insert_perm x r).cons y).trans (.swap x y r)
theorem foldr_perm {H : Type} : ∀ l : List (Lit × DataW H), (l.foldr DataW.insert []).Perm l
  | [] => .refl _
  | x :: r => (insert_perm x _).trans ((foldr_perm r).cons x)

def nilR : Value → Option (DataW Unit × List MemPlace) := fun _ => some (.nil, [])

theorem rd_key' {I : Im} {k : W} {e : MapEntry} (h : DR I (.str k) e.key) (hl : k.length ≤ maxLen) : rd Tryz.prog 9 nilR e = some (.string k, .nil) := by
  simp only [DR] at h
  have := Go.WideMaps.keyOf_string_mk (P := Tryz.prog) (k := 9) Tryz.underlying9 (s := ⟨k.toArray⟩) (by show k.toArray.size ≤ _; simpa using hl)
  simp only [Go.WideElems.rd, h, this, nilR, Option.bind_some, Option.map_some]

theorem keys_ents {I : Im} {w : World} {loc : Nat → Loc} {es : List (W × V × Nat)} {l : List MapEntry} (m : MapR I w loc (strM es) l) (hl : ∀ e ∈ es, e.1.length ≤ maxLen) : (l.map (rg Tryz.prog 9 nilR)).map (fun p => strOf p.1) = es.map (·.1) ∧ ∀ x ∈ l, ∃ y, rd Tryz.prog 9 nilR x = some y := by
  induction es generalizing l with
  | nil => cases m; exact ⟨rfl, fun x hx => by simp at hx⟩
  | cons e es ih =>
    obtain ⟨k, x, n⟩ := e
    cases m with
    | @cons _ _ _ e0 _ l0 a b c m =>
      obtain ⟨h1, h2⟩ := ih m (fun e he => hl e (by simp [he]))
      have hr := rd_key' a (hl (k, x, n) (by simp))
      refine ⟨?_, fun y hy => ?_⟩
      · have hg : rg Tryz.prog 9 nilR e0 = (.string k, .nil) := by unfold rg; rw [hr]; rfl
        rw [List.map_cons, List.map_cons, h1, hg]; rfl
      · rcases List.mem_cons.1 hy with rfl | hy
        · exact ⟨_, hr⟩
        · exact h2 y hy

theorem born_ents {I : Im} {w : World} {loc : Nat → Loc} {es : List (D × V × Nat)} {l : List MapEntry} (m : MapR I w loc es l) : l.map (·.born) = es.map (·.2.2) := by
  induction m with
  | nil => rfl
  | cons _ _ h _ ih => simp [h, ih]

theorem key_vals {I : Im} {w : World} {loc : Nat → Loc} {es : List (W × V × Nat)} {l : List MapEntry} (m : MapR I w loc (strM es) l) : l.map (·.key) = (es.map (·.1)).map encStr := by
  induction es generalizing l with
  | nil => cases m; rfl
  | cons e es ih =>
    obtain ⟨k, x, n⟩ := e
    cases m with
    | cons a b c m =>
      simp only [List.map_cons, ih m]
      simp only [DR] at a
      rw [a]
theorem keys_nodup {I : Im} {w : World} {loc : Nat → Loc} {es : List (W × V × Nat)} {l : List MapEntry} (m : MapR I w loc (strM es) l) (h : (es.map (·.1)).Nodup) : (l.map (·.key)).Nodup := by
  rw [key_vals m]
  exact List.pairwise_map.2 (h.imp fun hne e => hne (encStr_inj e))

/-- A row of strings that the call has laid, as data. -/
theorem row_data {c : Cx} {σ : List Ob} (hs : SR c σ) {w' : World} {v : Value} {ws : List W} (hrow : w'.ownsRow c.w.heap.size 9 1 v ws.length (ws.map encStr)) : DR (Cx.im ⟨w', c.loc, c.hid⟩) (.lst 1 (ws.map .str)) v := by
  obtain ⟨_, h | ⟨g, cap, cur, rfl, hg, hc, h1, h2, h3, h4⟩⟩ := hrow
  · obtain ⟨rfl, h0⟩ := h
    have : ws = [] := List.length_eq_zero_iff.1 h0
    subst this
    simp only [DR]
    exact ⟨none, 0, rfl, Nat.le_refl _, .inl rfl⟩
  · simp only [DR]
    refine ⟨_, cap, by simp, by simpa using h1, .inr ⟨g, 0, rfl, by omega, ⟨(Array.getElem?_eq_some_iff.1 hc).1, ?_, ?_⟩, ?_⟩⟩
    · rintro ⟨o, base, sz, e⟩
      have := hs.lt e
      omega
    · intro hh
      have := (hs.hid g hh).1
      omega
    · refine RowsR_of_get fun i d e => ?_
      rw [List.getElem?_map] at e
      cases hx : ws[i]? with
      | none => rw [hx] at e; cases e
      | some x =>
        rw [hx] at e; simp at e; subst e
        have hi := (List.getElem?_eq_some_iff.1 hx).1
        refine ⟨encStr x, by simp [DR, encStr], ⟨rfl, by simp [encStr, Value.cells, Value.oneCell']⟩, fun j hj => ?_⟩
        have hj0 : j = 0 := by omega
        subst hj0
        simp only [Nat.mul_one, Nat.zero_add, Nat.add_zero]
        show World.cell? w' ⟨g, i, none⟩ = _
        simp only [World.cell?, hc]
        have h5 : (cur.toList.take (ws.length * 1))[i]? = some (encStr x) := by rw [h4, List.getElem?_map, hx]; rfl
        rw [List.getElem?_take, if_pos (by omega), Array.getElem?_toList] at h5
        simp [h5, encStr, Value.cells]

theorem callA_intro' {P : Program} {f : FuncId} {args : List V} {σ : List Ob} {K : V → List Ob → Prop} (h1 : callable P f) (h : ∀ (c : Cx) (vals : List Value), SR c σ → c.vrs args vals → Calls P f vals.toArray c.w (CallPost c K)) : callA P f args σ K := ⟨h1, h⟩

set_option maxHeartbeats 4000000 in
theorem sorted25 {σ : List Ob} {b o clk : Nat} {es : List (W × V × Nat)} (hb : σ[b]? = some (.box [.mp o])) (ho : σ[o]? = some (.map (strM es) clk)) (hnd : (es.map (·.1)).Nodup) (hl : es.length ≤ 1048576) (hk : ∀ e ∈ es, e.1.length ≤ 1048576) :
    callA Tryz.prog 25 [.fn 56 [.ptr b 0 0]] σ fun r σ' => r = .d (.lst 1 (((es.map (·.1)).mergeSort leB).map .str)) ∧ σ' = σ := by
  refine callA_intro' ⟨Tryz.f25, Tryz.func25, by kernel_rfl, by kernel_rfl⟩ fun c vals hs hv => ?_
  simp only [Cx.vrs, VRs, VR] at hv
  obtain ⟨v0, t0, rfl, ⟨vs, rfl, v1, t1, rfl, h1, rfl⟩, rfl⟩ := hv
  obtain ⟨blk, sz, hlb, arr, e, f, g1, g2, g3⟩ := hs.get hb
  rw [hlb] at h1
  simp only [Nat.zero_mul, Nat.add_zero, Nat.zero_add] at h1
  subst h1
  simp only [Cx.vrs, VRs] at g3
  obtain ⟨us2, rest2, g4, v2, t2, rfl, g5, rfl⟩ := g3
  obtain ⟨mb, ents, hlm, rfl, m1, m2, m3, m4⟩ := map_at hs ho g5
  have hl1 : es.length ≤ maxLen := Nat.le_trans hl (by decide)
  have hk1 : ∀ e ∈ es, e.1.length ≤ maxLen := fun e he => Nat.le_trans (hk e he) (by decide)
  obtain ⟨k1, k2⟩ := keys_ents m2 hk1
  have hsz : ents.size = es.length := by have := m2.length; simpa [strM] using this
  obtain ⟨D0, hD0⟩ : ∃ D0 : DataW Unit, D0 = .map ((ents.toList.map (rg Tryz.prog 9 nilR)).foldr DataW.insert []) := ⟨_, rfl⟩
  have hperm : (strKeys D0).Perm (es.map (·.1)) := by
    rw [hD0, ← k1]
    exact (foldr_perm _).map _
  have hsize : Maps.size D0 = es.length := by
    have := hperm.length_eq
    rw [hD0] at this ⊢
    simp only [strKeys, List.length_map] at this
    simpa [Maps.size] using this
  have hown : c.w.ownsMap Tryz.prog 9 nilR mb es.length D0 := ⟨ents, clk, m1, ⟨by rw [hsz]; exact hl1, ?_, k2⟩, by rw [hsz]; exact Nat.le_refl _, hD0⟩
  rotate_left
  · have hb := born_ents m2
    refine ⟨fun x hx => ?_, by rw [hb]; exact m3, keys_nodup m2 hnd⟩
    have : x.born ∈ ents.toList.map (·.born) := List.mem_map.2 ⟨x, hx, rfl⟩
    rw [hb] at this
    obtain ⟨y, hy, hy2⟩ := List.mem_map.1 this
    rw [← hy2]; exact m4 y hy
  · have hcell : c.w.cell? ⟨blk, 0, none⟩ = some (.map (some mb)) := by
      have : arr[0]? = some (.map (some mb)) := by rw [← Array.getElem?_toList, g4]; rfl
      simp [World.cell?, g1, this]
    have hseq : SeqGives Fence.wide 2 Tryz.prog 56 #[.pointer (some ⟨blk, 0, none⟩)] encStr (fun ss => ss.Perm (strKeys D0)) (Maps.size D0) c.w :=
      AnyZ.keys_gives (ρ := keysA_ren) { keysA with } Fence.wide _ trivial rfl (by omega) blk mb es.length D0 _ (Array.getElem?_eq_some_iff.1 g1).1 hcell hown
    have cS := AnyZ.sorted_in sortedA Fence.wide 5 trivial trivial trivial trivial rfl (by omega) (sortsA _) (enters_of Tryz.func27 (by kernel_rfl) rfl) 56 #[.pointer (some ⟨blk, 0, none⟩)] trivial (enters_of Tryz.func56 (by kernel_rfl) rfl) _ _ (by rw [hsize]; exact hl1) (by rw [hsize]; omega) _ hseq
    refine (callsIn_wide.1 cS).mono fun e w' hp => ?_
    obtain ⟨v, ss, rfl, p1, p2, p3, p4⟩ := hp
    obtain ⟨hE, hS⟩ := Ext.below p4 hs
    have hsort : ss.mergeSort (fun x y => decide (x ≤ y)) = (es.map (·.1)).mergeSort leB := mergeSort_of_perm (p1.trans hperm)
    refine ⟨c.loc, σ, _, hS, hE, ?_, rfl, rfl⟩
    simp only [Cx.vr, VR]
    refine row_data hs ?_
    rw [← hsort, List.length_mergeSort]
    exact p2
end Go.Proofs.YtchgfpehcjomeaaGreatDoor.Am
