/- slices.Sort over a list of strings of the call's own, as a contract. -/
import Derived.Test.YtchgfpehcjomeaaGreatDoorIc
set_option linter.unusedSimpArgs false
set_option linter.unusedVariables false
set_option maxRecDepth 10000
set_option maxHeartbeats 2000000
namespace Go.Proofs.YtchgfpehcjomeaaGreatDoor.Am
open Go Go.Proofs Go.RowKit Go.Maps Go.Sort Go.Shelf

theorem heap_putRow {w : World} {g base n : Nat} {os : Array Obj} {cur : Array Value} {e : TypeId} {fr : Nat × Nat} (d : Array (List UInt8)) (hb : w.heap[g]? = some (.cells cur e fr)) :
    (putRow encStr (grow (Sort.ahead w n) os) g base d).heap[g]? = some (.cells (putCells encStr base d cur) e fr) := by
  have hg : g < w.heap.size := (Array.getElem?_eq_some_iff.1 hb).1
  have h0 : (grow (Sort.ahead w n) os).heap[g]? = some (.cells cur e fr) := by rw [heap_grow_old _ _ (by simpa using hg)]; exact hb
  simp [putRow, mapBlock, Array.getElem?_modify, h0, onCells]

theorem sort28 {σ : List Ob} {q : Nat} {mk : Bool} {ws : List W} (hq : σ[q]? = some (.arr 1 mk (ws.map .str))) (hl : ws.length ≤ 1048576) :
    callA Tryz.prog 27 [.sl q 0 ws.length] σ fun r σ' => r = .tup [] ∧ σ' = σ.set q (.arr 1 mk ((ws.mergeSort leB).map .str)) := by
  refine callA_intro' ⟨Tryz.f27, Tryz.func27, by kernel_rfl, by kernel_rfl⟩ fun c vals hs hv => ?_
  have tup : ∀ c' : Cx, c'.vr (.tup []) (.tuple #[]) := fun c' => by simp [Cx.vr, VR, VRs]
  simp only [Cx.vrs, VRs] at hv
  obtain ⟨v0, t0, rfl, h0, rfl⟩ := hv
  by_cases hw : ws = []
  · subst hw
    have hst : σ.set q (.arr 1 mk (([] : List W).map .str)) = σ := set_same hq
    obtain ⟨a, cap, rfl⟩ := vr_sl_len hs (alive_of hq (by simp)) h0
    refine (AnyM.slices_Sort_string_none sortA _ _ _).mono fun e w' ⟨he, hw'⟩ => ?_
    subst he; subst hw'
    refine ⟨c.loc, σ, .tup [], hs, Ext.refl c, tup _, rfl, ?_⟩
    simp only [List.mergeSort_nil]; exact hst.symm
  · have hpos := List.length_pos_iff.2 hw
    rcases vr_sl hs hq h0 with ⟨_, _, _, q0, _⟩ | ⟨b, base, a, cap, arr, e, f, hlo, rfl, g1, g2, g3, g4, g5, g6, g7, g8⟩
    · omega
    · have ha : a = base := by have := g2 (by omega); simpa using this
      subst ha
      have hb : b < c.w.heap.size := (Array.getElem?_eq_some_iff.1 g4).1
      simp only [List.length_map, Nat.mul_one] at g7
      have hH : Holds encStr c.w b a ws.toArray := by
        intro j hj
        have hj' : j < ws.length := by simpa using hj
        obtain ⟨v, h1, h2, h3⟩ := RowsR_get g8 j (d := .str ws[j]) (by simp [hj'])
        have h3 := h3 0 (by omega)
        simp only [DR] at h1
        subst h1
        rw [show (Value.string ⟨ws[j].toArray⟩).cells[0]? = some (Value.string ⟨ws[j].toArray⟩) from rfl] at h3
        simp only [Nat.mul_one, Nat.add_zero, Cx.im] at h3
        refine ⟨by rw [h3]; simp [hj'], ?_⟩
        have := g6.2 (a + j) (by omega)
        simp only [World.frozen?, g4]
        simpa using this
      refine (AnyM.slices_Sort_string sortA b a cap ws c.w hH hb (by omega)).mono fun e' w' ⟨he, n, os, hw'⟩ => ?_
      subst he
      generalize hss : ws.mergeSort (fun x y => decide (x ≤ y)) = ss at hw'
      have hsl : ss.length = ws.length := by rw [← hss]; exact List.length_mergeSort _
      have hw2 : w' = putRow encStr (grow (Sort.ahead c.w n) os) b a ss.toArray := by
        rw [hw', putRow_grow _ _ _ _ _ _ (by simpa using hb)]
      clear hw'
      subst hw2
      have hB : Below c.w.heap.size c.w (grow (Sort.ahead c.w n) os) := ⟨rfl, rfl, rfl, by simp [grow, Sort.ahead], fun k hk => by rw [heap_grow_old _ _ (by simpa using hk)]; rfl⟩
      obtain ⟨hE1, hS1⟩ := Ext.below hB hs
      have q1 : (putRow encStr (grow (Sort.ahead c.w n) os) b a ss.toArray).heap.size = (grow (Sort.ahead c.w n) os).heap.size := by simp [putRow, mapBlock]
      have q2 : ∀ b', b' ≠ b → (putRow encStr (grow (Sort.ahead c.w n) os) b a ss.toArray).heap[b']? = (grow (Sort.ahead c.w n) os).heap[b']? := fun b' hne => by simp [putRow, mapBlock, Array.getElem?_modify, Ne.symm hne]
      have q3 := heap_putRow (base := a) (n := n) (os := os) ss.toArray g4
      have q4 : (grow (Sort.ahead c.w n) os).heap[b]? = some (.cells arr e f) := by rw [heap_grow_old _ _ (by simpa using hb)]; exact g4
      have hcl : ∀ (cs : Array Value) (e' : TypeId) (f' : Nat × Nat), (grow (Sort.ahead c.w n) os).heap[b]? = some (.cells cs e' f') → ∃ (cs' : Array Value) (f'' : Nat × Nat), (putRow encStr (grow (Sort.ahead c.w n) os) b a ss.toArray).heap[b]? = some (.cells cs' e' f'') ∧ cs'.size = cs.size := by
        intro cs e' f' hc
        rw [q4] at hc
        simp only [Option.some.injEq, Obj.cells.injEq] at hc
        obtain ⟨rfl, rfl, rfl⟩ := hc
        exact ⟨_, _, q3, by simp [putCells]⟩
      have hsz : (putCells encStr a ss.toArray arr).size = arr.size := by simp [putCells]
      have hE2 := Ext.write (c := ⟨grow (Sort.ahead c.w n) os, c.loc, c.hid⟩) hlo _ q1 q2 hcl ⟨rfl, rfl, rfl⟩
      refine ⟨c.loc, _, .tup [], SR.write hS1 hlo _ q1 q2 hcl (.arr 1 mk (ss.map .str)) (.inr ⟨b, a, rfl, by omega, _, e, f, q3, by rw [hsz]; exact g6, by rw [hsz]; simpa [hsl] using g7, ?_⟩) ⟨rfl, rfl, rfl⟩, hE1.trans hE2, tup _, rfl, ?_⟩
      · refine RowsR_of_get fun i d hd => ?_
        rw [List.getElem?_map] at hd
        cases hx : ss[i]? with
        | none => rw [hx] at hd; cases hd
        | some x =>
          rw [hx] at hd; simp at hd; subst hd
          have hi := (List.getElem?_eq_some_iff.1 hx).1
          refine ⟨encStr x, by simp [DR, encStr], ⟨rfl, by simp [encStr, Value.cells, Value.oneCell']⟩, fun j hj => ?_⟩
          have hj0 : j = 0 := by omega
          subst hj0
          simp only [Nat.mul_one, Nat.add_zero]
          show World.cell? (putRow encStr (grow (Sort.ahead c.w n) os) b a ss.toArray) ⟨b, a + i, none⟩ = _
          have hx' : ss[i] = x := by rw [List.getElem?_eq_getElem hi] at hx; simpa using hx
          simp [World.cell?, q3, putCells, hi, show a + i < arr.size by omega, hx', encStr, Value.cells]
      · rw [← hss]

theorem sort28n (σ : List Ob) : callA Tryz.prog 27 [.d .nils] σ fun r σ' => r = .tup [] ∧ σ' = σ := by
  refine callA_intro' ⟨Tryz.f27, Tryz.func27, by kernel_rfl, by kernel_rfl⟩ fun c vals hs hv => ?_
  have tup : ∀ c' : Cx, c'.vr (.tup []) (.tuple #[]) := fun c' => by simp [Cx.vr, VR, VRs]
  simp only [Cx.vrs, VRs, Cx.vr, VR, DR] at hv
  obtain ⟨v0, t0, rfl, rfl, rfl⟩ := hv
  refine (AnyM.slices_Sort_string_none sortA _ _ _).mono fun e w' ⟨he, hw'⟩ => ?_
  subst he; subst hw'
  exact ⟨c.loc, σ, .tup [], hs, Ext.refl c, tup _, rfl, rfl⟩
end Go.Proofs.YtchgfpehcjomeaaGreatDoor.Am
